/- Contracts of flow: the inner function of push. Contracts of flow: push. Contracts of flow: reached, Most, Cut. -/
import Derived.Test.YtnhodgonmceojaaFX
set_option linter.unusedVariables false
set_option linter.unusedSimpArgs false
namespace Go.Proofs.Ytnhodgonmceojaa.Sh
open Go.RowKit

/-! ### Contracts of flow: the inner function of push. -/
def nI (nx : Nat → Nat) : Nat → Int := fun p => (nx p : Int)
theorem nI_upd (nx : Nat → Nat) (k x : Nat) : upd (nI nx) k (x : Int) = nI (upd nx k x) := by
  funext i; unfold nI; rw [upd_at, upd_at]; split <;> rfl

/-- The rows that the inner function is given. -/
structure PRows (m : Mem) (b rt rn rw_ rl rf : Nat) (t : Nat) (lev : Nat → Int) : Prop where
  t : m.get rt = some (.cells [.int .i64 t] 3 1)
  w : m.get rw_ = some (.cells [.pointer (some ⟨b, 0, none⟩)] 82 1)
  l : m.get rl = some (.cells (iv lev 24) 117 24)
  f : m.get rf = some (.cells [.func (.func 53) #[] #[.pointer (some ⟨rt, 0, none⟩), .pointer (some ⟨rn, 0, none⟩), .pointer (some ⟨rw_, 0, none⟩), .pointer (some ⟨rl, 0, none⟩), .pointer (some ⟨rf, 0, none⟩)]] 119 1)
  lt : rt < m.next ∧ rw_ < m.next ∧ rl < m.next ∧ rf < m.next ∧ rn < m.next
  nb : rt ≠ b ∧ rw_ ≠ b ∧ rl ≠ b ∧ rf ≠ b ∧ rn ≠ b
  nn : rt ≠ rn ∧ rw_ ≠ rn ∧ rl ≠ rn ∧ rf ≠ rn
theorem PRows.exc {m m' : Mem} {b rt rn rw_ rl rf t : Nat} {lev : Nat → Int} (h : PRows m b rt rn rw_ rl rf t lev) (hm : Mexc (fun i => i = b ∨ i = rn) m m') : PRows m' b rt rn rw_ rl rf t lev where
  t := (hm.get _ h.lt.1 (by have := h.nb; have := h.nn; omega)).trans h.t
  w := (hm.get _ h.lt.2.1 (by have := h.nb; have := h.nn; omega)).trans h.w
  l := (hm.get _ h.lt.2.2.1 (by have := h.nb; have := h.nn; omega)).trans h.l
  f := (hm.get _ h.lt.2.2.2.1 (by have := h.nb; have := h.nn; omega)).trans h.f
  lt := by have := hm.next; have := h.lt; omega
  nb := h.nb
  nn := h.nn

/-- The slices of places do not lie in the row of the next arcs. -/
def AtOff (rn : Nat) (at_ : Nat → Value) : Prop := ∀ p, p < 24 → ∀ a n c, at_ p = .slice (some a) n c → a.block ≠ rn
theorem WorkAt.exc {m m' : Mem} {b rn : Nat} {N : Int} {l : List ArcI} {left left' : Nat → Int} {at_ : Nat → Value} (h : WorkAt m b N l left at_) (ho : AtOff rn at_) (hm : Mexc (fun i => i = b ∨ i = rn) m m') (hg : m'.get b = some (.cells (wk N (toOf l) left' at_) 89 825)) : WorkAt m' b N l left' at_ := by
  refine ⟨hg, Nat.lt_of_lt_of_le h.2.1 hm.next, fun p hp => ?_⟩
  have hs := h.2.2 p hp
  refine ⟨hs.len, fun a n c hv j x hx => ?_, hs.nil, fun a n c hv => ⟨Nat.lt_of_lt_of_le (hs.lt a n c hv).1 hm.next, (hs.lt a n c hv).2⟩⟩
  have h1 := hs.lt a n c hv
  have h2 := ho p hp a n c hv
  rw [cell_get, hm.get _ h1.1 (by rintro (e | e); exact h1.2 e; exact h2 e), ← cell_get]
  exact hs.get a n c hv j x hx

set_option maxRecDepth 100000 in
theorem widen_spec {Γ : YEnv} (hΓ : YMono Γ) (b rt rn rw_ rl rf t s : Nat) (N : Int) (l : List ArcI) (at_ : Nat → Value) (lev : Nat → Int) (hN : N ≤ 24) (hok : ∀ x ∈ l, ArcI.ok N x) (hl : l.length ≤ 200) (ht : (t : Int) < N) (hlev : ∀ p, p < 24 → lev p < 24) (hoff : AtOff rn at_) :
    ∀ (d : Nat) (u : Nat) (most : Int) (left : Nat → Int) (nx : Nat → Nat) (m : Mem), 24 - lev u ≤ d → (u : Int) < N → 0 ≤ lev u → 0 < most → most ≤ 200000000000 → PRows m b rt rn rw_ rl rf t lev → WorkAt m b N l left at_ → m.get rn = some (.cells (iv (nI nx) 24) 117 24) → ResOk l left → (∀ p, p < 24 → nx p ≤ (adjN l p).length) →
      ACalls Try.prog Γ 53 [.int .i64 u, .int .i64 most, .pointer (some ⟨rt, 0, none⟩), .pointer (some ⟨rn, 0, none⟩), .pointer (some ⟨rw_, 0, none⟩), .pointer (some ⟨rl, 0, none⟩), .pointer (some ⟨rf, 0, none⟩)] m
        fun r m' => ∃ (x : Int) (left' : Nat → Int) (nx' : Nat → Nat), r = .int .i64 x ∧ 0 ≤ x ∧ x ≤ most ∧ Mexc (fun i => i = b ∨ i = rn) m m' ∧ WorkAt m' b N l left' at_ ∧ m'.get rn = some (.cells (iv (nI nx') 24) 117 24) ∧
          Push l lev left left' u t x ∧ (∀ p, p < 24 → nx' p ≤ (adjN l p).length) ∧ (∀ p, p < 24 → lev p < lev u → nx' p = nx p) ∧ (x = 0 → left' = left ∧ (Dead l lev t left nx → Dead l lev t left nx' ∧ nx' u = (adjN l u).length ∧ u ≠ t)) := by
  intro d
  induction d with
  | zero => intro u most left nx m hd hu; have := hlev u (by omega); omega
  | succ d ih =>
    intro u most left nx m hd hu hu0 hm0 hm1 hp hw hn hres hnx
    refine acallsW hΓ fok53 (by simp [X53]) fun Q hQ => ?_
    have hu24 : u < 24 := by omega
    have hu24' : ((u : Int) < ((24 : Nat) : Int)) = True := eq_true (by omega)
    have res : ∀ (x : Int) (left' : Nat → Int) (nx' : Nat → Nat), 0 ≤ x → x ≤ most → ∀ e f m', (e = .normal ∨ e = .ret) → (f 9).v = .int .i64 x → Mexc (fun i => i = b ∨ i = rn) m m' → WorkAt m' b N l left' at_ → m'.get rn = some (.cells (iv (nI nx') 24) 117 24) →
        Push l lev left left' u t x → (∀ p, p < 24 → nx' p ≤ (adjN l p).length) → (∀ p, p < 24 → lev p < lev u → nx' p = nx p) → (x = 0 → left' = left ∧ (Dead l lev t left nx → Dead l lev t left nx' ∧ nx' u = (adjN l u).length ∧ u ≠ t)) → Q e f m' := by
      intro x left' nx' h1 h2 e f m' he hf9 h3 h4 h5 h6 h7 h8 h9
      exact hQ _ _ _ ⟨he, [.int .i64 x], by simp [X53, R53, resL, hf9], x, left', nx', rfl, h1, h2, h3, h4, h5, h6, h7, h8, h9⟩
    by_cases hut : u = t
    · have hut' : ((u : Int) = (t : Int)) = True := eq_true (by omega)
      simp (decide := true) only [S53_0, S53_1, S53_2, S53_3, S53_4, S53_5, S53_6, S53_7, S53_8, S53_9, S53_10, S53_11, S53_12, S53_13, S53_14, S53_15, S53_16, S53_17, S53_18, S53_19, S53_20, S53_21, S53_22, S53_23, S53_24, S53_25, S53_26, S53_27, S53_28, S53_29, S53_30, S53_31, S53_32, S53_33, S53_34, S53_35, S53_36, S53, X53, G53, hp.t, hut', EV2, MVn, qv, qvK, List.set_cons_zero, List.set_cons_succ, List.toList_toArray, Int.reduceToNat, Nat.reduceAdd, Nat.reduceMul, Nat.one_mul, Bool.not_true, Bool.not_false, EV, step, List.map_cons, List.map_nil, Option.map_some, Option.map_none, if_true, if_false, reduceIte, List.getElem?_cons_zero, List.getElem?_cons_succ, Option.getD_some, List.nil_append, List.append_nil, List.cons_append, List.getElem?_nil, Option.getD_none, true_implies, false_implies, not_true_eq_false, not_false_eq_true, and_true, true_and, decide_true, decide_false, Int.natCast_nonneg, Int.toNat_natCast, Nat.mul_one, List.size_toArray, List.getElem?_toArray, List.length_cons, List.length_nil, Nat.zero_add, Nat.add_zero, List.drop_zero, List.take_succ_cons, List.take_zero, List.drop_succ_cons, List.all_cons, List.all_nil, Bool.and_true, Bool.and_self, and_self]
      refine res most left nx (by omega) (by omega) _ _ _ (.inr rfl) (by rfl) (Mexc.refl _ _) hw hn ?_ hnx (fun _ _ _ => rfl) (fun h => by omega)
      rw [hut]; exact Push.refl hres t most
    · have hut' : ((u : Int) = (t : Int)) = False := eq_false (by omega)
      simp (decide := true) only [S53_0, S53_1, S53_2, S53_3, S53_4, S53_5, S53_6, S53_7, S53_8, S53_9, S53_10, S53_11, S53_12, S53_13, S53_14, S53_15, S53_16, S53_17, S53_18, S53_19, S53_20, S53_21, S53_22, S53_23, S53_24, S53_25, S53_26, S53_27, S53_28, S53_29, S53_30, S53_31, S53_32, S53_33, S53_34, S53_35, S53_36, S53, X53, G53, hp.t, hut', EV2, MVn, qv, qvK, List.set_cons_zero, List.set_cons_succ, List.toList_toArray, Int.reduceToNat, Nat.reduceAdd, Nat.reduceMul, Nat.one_mul, Bool.not_true, Bool.not_false, EV, step, List.map_cons, List.map_nil, Option.map_some, Option.map_none, if_true, if_false, reduceIte, List.getElem?_cons_zero, List.getElem?_cons_succ, Option.getD_some, List.nil_append, List.append_nil, List.cons_append, List.getElem?_nil, Option.getD_none, true_implies, false_implies, not_true_eq_false, not_false_eq_true, and_true, true_and, decide_true, decide_false, Int.natCast_nonneg, Int.toNat_natCast, Nat.mul_one, List.size_toArray, List.getElem?_toArray, List.length_cons, List.length_nil, Nat.zero_add, Nat.add_zero, List.drop_zero, List.take_succ_cons, List.take_zero, List.drop_succ_cons, List.all_cons, List.all_nil, Bool.and_true, Bool.and_self, and_self]
      refine W_loop (fun k f m1 => ∃ nc : Nat → Nat, nc u ≤ (adjN l u).length ∧ k = (adjN l u).length - nc u ∧ Mexc (fun i => i = b ∨ i = rn) m m1 ∧ WorkAt m1 b N l left at_ ∧ m1.get rn = some (.cells (iv (nI nc) 24) 117 24) ∧
          (∀ p, p < 24 → nc p ≤ (adjN l p).length) ∧ (∀ p, p < 24 → lev p < lev u → nc p = nx p) ∧ (Dead l lev t left nx → Dead l lev t left nc) ∧
          (f 0).v = .int .i64 u ∧ (f 1).v = .int .i64 most ∧ (f 3).v = .pointer (some ⟨rn, 0, none⟩) ∧ (f 4).v = .pointer (some ⟨rw_, 0, none⟩) ∧ (f 5).v = .pointer (some ⟨rl, 0, none⟩) ∧ (f 6).v = .pointer (some ⟨rf, 0, none⟩))
        _ ⟨nx, hnx u hu24, rfl, Mexc.refl _ _, hw, hn, hnx, fun _ _ _ => rfl, id, rfl, rfl, rfl, rfl, rfl, rfl⟩ hΓ ?_
      rintro k f m1 ⟨nc, hnc, rfl, hm, hw1, hn1, hncl, hlow, hdead, f0, f1, f3, f4, f5, f6⟩ Q1 hnr he hret
      have hp1 := hp.exc hm
      obtain ⟨wg, wb, wsl⟩ := hw1
      obtain ⟨bo, bc, hbv⟩ := (wsl u hu24).len
      rw [adjOf_nat, natI_len] at hbv
      have hncI : nI nc u = (nc u : Int) := rfl
      by_cases hlt : nc u < (adjN l u).length
      · have hlt' : ((nc u : Int) < (adjN l u).length) = True := eq_true (by omega)
        obtain ⟨a2, c2, hbv2, hb2, hcell2⟩ := (wsl u hu24).ints.ldN (q := adjN l u) hlt
        rw [hbv] at hbv2; cases hbv2
        have hjm : (adjN l u)[nc u] ∈ adjN l u := List.getElem_mem hlt
        have hji : (adjN l u)[nc u]? = some (adjN l u)[nc u] := List.getElem?_eq_getElem hlt
        generalize (adjN l u)[nc u] = j at hjm hji hcell2
        have hj2 := (adjN_mem.1 hjm).1
        have hj4 : j < 400 := by omega
        have hj4' : ((j : Int) < ((400 : Nat) : Int)) = True := eq_true (by omega)
        have ho4 : opp j < 400 := by have := opp_lt hj2; omega
        have ho4' : ((opp j : Int) < ((400 : Nat) : Int)) = True := eq_true (by omega)
        obtain ⟨hto, htoN⟩ := toN_eq hok hj2
        have ht24 : toN l j < 24 := by omega
        have ht24' : ((toN l j : Int) < ((24 : Nat) : Int)) = True := eq_true (by omega)
        have hwl : IntKind.wrap .i64 (lev u + 1) = lev u + 1 := wrap_i64 (by omega) (by have := hlev u hu24; omega)
        have hwn : IntKind.wrap .i64 ((nc u : Int) + 1) = ((nc u + 1 : Nat) : Int) := by
          have := adjN_len l u
          rw [wrap_i64 (by omega) (by omega)]; omega
        have hst : (u + 1 ≤ 24) = True := eq_true (by omega)
        have next : (∀ m2 : Mem, ∀ nd : Nat → Nat, Mexc (fun i => i = b ∨ i = rn) m m2 → WorkAt m2 b N l left at_ → m2.get rn = some (.cells (iv (nI nd) 24) 117 24) → nd u = nc u → (∀ p, p < 24 → nd p ≤ (adjN l p).length) → (∀ p, p < 24 → lev p < lev u → nd p = nx p) → (Dead l lev t left nx → Dead l lev t left nd) →
            (left j ≠ 0 → lev (toN l j) = lev u + 1 → Dead l lev t left nx → toN l j ≠ t ∧ nd (toN l j) = (adjN l (toN l j)).length) →
            ∀ f2 : Fr, (f2 0).v = .int .i64 u → (f2 1).v = .int .i64 most → (f2 3).v = .pointer (some ⟨rn, 0, none⟩) → (f2 4).v = .pointer (some ⟨rw_, 0, none⟩) → (f2 5).v = .pointer (some ⟨rl, 0, none⟩) → (f2 6).v = .pointer (some ⟨rf, 0, none⟩) → Q1 .normal f2 (m2.set rn (.cells (iv (nI (upd nd u (nc u + 1))) 24) 117 24))) := by
          intro m2 nd h1 h2 h3 h4 h5 h6 h7 h8 f2 g0 g1 g3 g4 g5 g6
          refine hnr ((adjN l u).length - (nc u + 1)) _ _ (by omega) ⟨upd nd u (nc u + 1), by rw [upd_same]; omega, by rw [upd_same], h1.set (.inr (.inr rfl)) _, ?_, Mem.get_set _ _ _, ?_, ?_, ?_, g0, g1, g3, g4, g5, g6⟩
          · exact h2.exc hoff ((Mexc.refl _ m2).set (.inr (.inr rfl)) _) (by rw [Mem.get_set_ne _ _ _ (Ne.symm hp.nb.2.2.2.2)]; exact h2.1)
          · intro p hp
            rw [upd_at]; split
            · rename_i e; subst e; omega
            · exact h5 p hp
          · intro p hp hl
            rw [upd_ne _ _ (by rintro rfl; omega)]; exact h6 p hp hl
          · intro hD
            have hD2 := h7 hD
            rw [← h4]
            refine hD2.step (by omega) fun j' hj' h0 hl' => ?_
            rw [h4, hji] at hj'; cases hj'
            exact h8 h0 hl' hD
        by_cases h1 : left j = 0
        · have h1' : (left j = 0) = True := eq_true h1
          simp (decide := true) only [f0, f1, f3, f4, f5, f6, hn1, hp1.w, hp1.l, wg, iv_get, wk_at, wk_left, hbv, hu24, hu24', hncI, hlt', hcell2, hj4, hj4', h1', hwn, hst, iv_len, iv_set, nI_upd, EV2, MVn, qv, qvK, List.set_cons_zero, List.set_cons_succ, List.toList_toArray, Int.reduceToNat, Nat.reduceAdd, Nat.reduceMul, Nat.one_mul, Bool.not_true, Bool.not_false, EV, step, List.map_cons, List.map_nil, Option.map_some, Option.map_none, if_true, if_false, reduceIte, List.getElem?_cons_zero, List.getElem?_cons_succ, Option.getD_some, List.nil_append, List.append_nil, List.cons_append, List.getElem?_nil, Option.getD_none, true_implies, false_implies, not_true_eq_false, not_false_eq_true, and_true, true_and, decide_true, decide_false, Int.natCast_nonneg, Int.toNat_natCast, Nat.mul_one, List.size_toArray, List.getElem?_toArray, List.length_cons, List.length_nil, Nat.zero_add, Nat.add_zero, List.drop_zero, List.take_succ_cons, List.take_zero, List.drop_succ_cons, List.all_cons, List.all_nil, Bool.and_true, Bool.and_self, and_self]
          exact next m1 nc hm ⟨wg, wb, wsl⟩ hn1 rfl hncl hlow hdead (fun h => absurd h1 h) _ (by simp [sem, f0]) (by simp [sem, f1]) (by simp [sem, f3]) (by simp [sem, f4]) (by simp [sem, f5]) (by simp [sem, f6])
        · by_cases h2 : lev (toN l j) = lev u + 1
          · have h2' : (lev (toN l j) = lev u + 1) = True := eq_true h2
            simp (decide := true) only [f0, f1, f3, f4, f5, f6, hn1, hp1.w, hp1.l, hp1.f, wg, iv_get, wk_at, wk_left, wk_to, hto, hbv, hu24, hu24', hncI, hlt', hcell2, hj4, hj4', ht24, ht24', h1, h2', ne_eq, hwl, EV2, MVn, qv, qvK, List.set_cons_zero, List.set_cons_succ, List.toList_toArray, Int.reduceToNat, Nat.reduceAdd, Nat.reduceMul, Nat.one_mul, Bool.not_true, Bool.not_false, EV, step, List.map_cons, List.map_nil, Option.map_some, Option.map_none, if_true, if_false, reduceIte, List.getElem?_cons_zero, List.getElem?_cons_succ, Option.getD_some, List.nil_append, List.append_nil, List.cons_append, List.getElem?_nil, Option.getD_none, true_implies, false_implies, not_true_eq_false, not_false_eq_true, and_true, true_and, decide_true, decide_false, Int.natCast_nonneg, Int.toNat_natCast, Nat.mul_one, List.size_toArray, List.getElem?_toArray, List.length_cons, List.length_nil, Nat.zero_add, Nat.add_zero, List.drop_zero, List.take_succ_cons, List.take_zero, List.drop_succ_cons, List.all_cons, List.all_nil, Bool.and_true, Bool.and_self, and_self]
            have hlj := hres.pos j hj2
            refine (ih (toN l j) (min most (left j)) left nc m1 (by omega) htoN (by omega) (by omega) (by omega) hp1 ⟨wg, wb, wsl⟩ hn1 hres hncl).mono ?_
            rintro r m2 ⟨x, left2, nd, rfl, hx0, hxm, hm2, hw2, hn2, hpush, hndl, hndlow, hzero⟩
            have hp2 := hp1.exc hm2
            have hm12 := hm.trans hm2
            by_cases hx : 0 < x
            · have hl2 : left2 j = left j := hpush.low j u hjm (by omega)
              have hr1 := hpush.ok.le hok hj2
              have hr2 := hpush.ok.le hok (opp_lt hj2)
              have hs2 := hpush.ok.sum j hj2
              have hc1 := cap_ok hok hj2
              have hc2 := cap_ok hok (opp_lt hj2)
              have hws : IntKind.wrap .i64 (left2 j - x) = left2 j - x := wrap_i64 (by omega) (by omega)
              have hwa : IntKind.wrap .i64 (left2 (opp j) + x) = left2 (opp j) + x := wrap_i64 (by omega) (by omega)
              have hup : upd left2 j (left2 j - x) (opp j) = left2 (opp j) := upd_ne _ _ (opp_ne j)
              have hs1 : (401 + j + 1 ≤ 825) = True := eq_true (by omega)
              have hs3 : (401 + opp j + 1 ≤ 825) = True := eq_true (by omega)
              have hwn1 : rw_ ≠ b := hp.nb.2.1
              simp (decide := true) only [hx, hp2.w, hw2.1, hwn1, wk_left, wk_set_left, wk_len, hj4, hj4', ho4, ho4', hws, hwa, hup, xor1 hj4, hs1, hs3, f0, f1, f3, f4, f5, f6, EV2, MVn, qv, qvK, List.set_cons_zero, List.set_cons_succ, List.toList_toArray, Int.reduceToNat, Nat.reduceAdd, Nat.reduceMul, Nat.one_mul, Bool.not_true, Bool.not_false, EV, step, List.map_cons, List.map_nil, Option.map_some, Option.map_none, if_true, if_false, reduceIte, List.getElem?_cons_zero, List.getElem?_cons_succ, Option.getD_some, List.nil_append, List.append_nil, List.cons_append, List.getElem?_nil, Option.getD_none, true_implies, false_implies, not_true_eq_false, not_false_eq_true, and_true, true_and, decide_true, decide_false, Int.natCast_nonneg, Int.toNat_natCast, Nat.mul_one, List.size_toArray, List.getElem?_toArray, List.length_cons, List.length_nil, Nat.zero_add, Nat.add_zero, List.drop_zero, List.take_succ_cons, List.take_zero, List.drop_succ_cons, List.all_cons, List.all_nil, Bool.and_true, Bool.and_self, and_self]
              refine hret _ _ ?_
              simp (decide := true) only [EV2, MVn, qv, qvK, List.set_cons_zero, List.set_cons_succ, List.toList_toArray, Int.reduceToNat, Nat.reduceAdd, Nat.reduceMul, Nat.one_mul, Bool.not_true, Bool.not_false, EV, step, List.map_cons, List.map_nil, Option.map_some, Option.map_none, if_true, if_false, reduceIte, List.getElem?_cons_zero, List.getElem?_cons_succ, Option.getD_some, List.nil_append, List.append_nil, List.cons_append, List.getElem?_nil, Option.getD_none, true_implies, false_implies, not_true_eq_false, not_false_eq_true, and_true, true_and, decide_true, decide_false, Int.natCast_nonneg, Int.toNat_natCast, Nat.mul_one, List.size_toArray, List.getElem?_toArray, List.length_cons, List.length_nil, Nat.zero_add, Nat.add_zero, List.drop_zero, List.take_succ_cons, List.take_zero, List.drop_succ_cons, List.all_cons, List.all_nil, Bool.and_true, Bool.and_self, and_self]
              have hgb : ((m2.set b (.cells (wk N (toOf l) (upd left2 j (left2 j - x)) at_) 89 825)).set b (.cells (wk N (toOf l) (upd (upd left2 j (left2 j - x)) (opp j) (left2 (opp j) + x)) at_) 89 825)).get b = some (.cells (wk N (toOf l) (pushed left2 j x) at_) 89 825) := Mem.get_set _ _ _
              refine res x (pushed left2 j x) nd hx0 (by omega) _ _ _ (.inr rfl) (by rfl) ((hm12.set (.inr (.inl rfl)) _).set (.inr (.inl rfl)) _) ?_ ?_ (hpush.step hok hjm h2 hx0 (by omega)) hndl (fun p hp hl => ?_) (fun h => by omega)
              · exact hw2.exc hoff (((Mexc.refl _ m2).set (.inr (.inl rfl)) _).set (.inr (.inl rfl)) _) hgb
              · rw [Mem.get_set_ne _ _ _ hp.nb.2.2.2.2, Mem.get_set_ne _ _ _ hp.nb.2.2.2.2]; exact hn2
              · rw [hndlow p hp (by omega)]; exact hlow p hp hl
            · have hx0' : x = 0 := by omega
              obtain ⟨rfl, hz2⟩ := hzero hx0'
              have hndu : nd u = nc u := hndlow u hu24 (by omega)
              have hndI : nI nd u = (nc u : Int) := by unfold nI; rw [hndu]
              simp (decide := true) only [hx, f0, f1, f3, f4, f5, f6, hn2, iv_get, hu24, hu24', hndI, hwn, hst, iv_len, iv_set, nI_upd, EV2, MVn, qv, qvK, List.set_cons_zero, List.set_cons_succ, List.toList_toArray, Int.reduceToNat, Nat.reduceAdd, Nat.reduceMul, Nat.one_mul, Bool.not_true, Bool.not_false, EV, step, List.map_cons, List.map_nil, Option.map_some, Option.map_none, if_true, if_false, reduceIte, List.getElem?_cons_zero, List.getElem?_cons_succ, Option.getD_some, List.nil_append, List.append_nil, List.cons_append, List.getElem?_nil, Option.getD_none, true_implies, false_implies, not_true_eq_false, not_false_eq_true, and_true, true_and, decide_true, decide_false, Int.natCast_nonneg, Int.toNat_natCast, Nat.mul_one, List.size_toArray, List.getElem?_toArray, List.length_cons, List.length_nil, Nat.zero_add, Nat.add_zero, List.drop_zero, List.take_succ_cons, List.take_zero, List.drop_succ_cons, List.all_cons, List.all_nil, Bool.and_true, Bool.and_self, and_self]
              exact next m2 nd hm12 hw2 hn2 hndu hndl (fun p hp hl => by rw [hndlow p hp (by omega)]; exact hlow p hp hl) (fun hD => (hz2 (hdead hD)).1) (fun _ _ hD => ⟨(hz2 (hdead hD)).2.2, (hz2 (hdead hD)).2.1⟩) _ (by simp [sem, f0]) (by simp [sem, f1]) (by simp [sem, f3]) (by simp [sem, f4]) (by simp [sem, f5]) (by simp [sem, f6])
          · simp (decide := true) only [f0, f1, f3, f4, f5, f6, hn1, hp1.w, hp1.l, wg, iv_get, wk_at, wk_left, wk_to, hto, hbv, hu24, hu24', hncI, hlt', hcell2, hj4, hj4', ht24, ht24', h1, h2, ne_eq, hwl, hwn, hst, iv_len, iv_set, nI_upd, EV2, MVn, qv, qvK, List.set_cons_zero, List.set_cons_succ, List.toList_toArray, Int.reduceToNat, Nat.reduceAdd, Nat.reduceMul, Nat.one_mul, Bool.not_true, Bool.not_false, EV, step, List.map_cons, List.map_nil, Option.map_some, Option.map_none, if_true, if_false, reduceIte, List.getElem?_cons_zero, List.getElem?_cons_succ, Option.getD_some, List.nil_append, List.append_nil, List.cons_append, List.getElem?_nil, Option.getD_none, true_implies, false_implies, not_true_eq_false, not_false_eq_true, and_true, true_and, decide_true, decide_false, Int.natCast_nonneg, Int.toNat_natCast, Nat.mul_one, List.size_toArray, List.getElem?_toArray, List.length_cons, List.length_nil, Nat.zero_add, Nat.add_zero, List.drop_zero, List.take_succ_cons, List.take_zero, List.drop_succ_cons, List.all_cons, List.all_nil, Bool.and_true, Bool.and_self, and_self]
            exact next m1 nc hm ⟨wg, wb, wsl⟩ hn1 rfl hncl hlow hdead (fun _ h => absurd h h2) _ (by simp [sem, f0]) (by simp [sem, f1]) (by simp [sem, f3]) (by simp [sem, f4]) (by simp [sem, f5]) (by simp [sem, f6])
      · have hlt' : ((nc u : Int) < (adjN l u).length) = False := eq_false (by omega)
        simp (decide := true) only [f0, f1, f3, f4, f5, f6, hn1, hp1.w, wg, iv_get, wk_at, hbv, hu24, hu24', hncI, hlt', EV2, MVn, qv, qvK, List.set_cons_zero, List.set_cons_succ, List.toList_toArray, Int.reduceToNat, Nat.reduceAdd, Nat.reduceMul, Nat.one_mul, Bool.not_true, Bool.not_false, EV, step, List.map_cons, List.map_nil, Option.map_some, Option.map_none, if_true, if_false, reduceIte, List.getElem?_cons_zero, List.getElem?_cons_succ, Option.getD_some, List.nil_append, List.append_nil, List.cons_append, List.getElem?_nil, Option.getD_none, true_implies, false_implies, not_true_eq_false, not_false_eq_true, and_true, true_and, decide_true, decide_false, Int.natCast_nonneg, Int.toNat_natCast, Nat.mul_one, List.size_toArray, List.getElem?_toArray, List.length_cons, List.length_nil, Nat.zero_add, Nat.add_zero, List.drop_zero, List.take_succ_cons, List.take_zero, List.drop_succ_cons, List.all_cons, List.all_nil, Bool.and_true, Bool.and_self, and_self]
        refine he _ _ _ ?_
        simp (decide := true) only [EV2, MVn, qv, qvK, List.set_cons_zero, List.set_cons_succ, List.toList_toArray, Int.reduceToNat, Nat.reduceAdd, Nat.reduceMul, Nat.one_mul, Bool.not_true, Bool.not_false, EV, step, List.map_cons, List.map_nil, Option.map_some, Option.map_none, if_true, if_false, reduceIte, List.getElem?_cons_zero, List.getElem?_cons_succ, Option.getD_some, List.nil_append, List.append_nil, List.cons_append, List.getElem?_nil, Option.getD_none, true_implies, false_implies, not_true_eq_false, not_false_eq_true, and_true, true_and, decide_true, decide_false, Int.natCast_nonneg, Int.toNat_natCast, Nat.mul_one, List.size_toArray, List.getElem?_toArray, List.length_cons, List.length_nil, Nat.zero_add, Nat.add_zero, List.drop_zero, List.take_succ_cons, List.take_zero, List.drop_succ_cons, List.all_cons, List.all_nil, Bool.and_true, Bool.and_self, and_self]
        refine res 0 left nc (by omega) (by omega) _ _ _ (.inr rfl) (by rfl) hm ⟨wg, wb, wsl⟩ hn1 (Push.none hres u t) hncl hlow (fun _ => ⟨rfl, fun hD => ⟨hdead hD, by omega, hut⟩⟩)

/-! ### Contracts of flow: push. -/
theorem zc119 : Zc Try.prog 119 = [.nilFunc] := by kernel_rfl
theorem at_bound {N : Int} {l : List ArcI} (hok : ∀ x ∈ l, ArcI.ok N x) (hl : l.length ≤ 200) {left : Nat → Int} (h : ResOk l left) (p : Nat) : 0 ≤ atP l left p ∧ atP l left p ≤ 800000000000 := by
  unfold atP
  refine ⟨sumTo_nonneg _ fun j hj => ?_, ?_⟩
  · have := h.pos j hj; split <;> omega
  · have := sumTo_le (f := fun j => if tailOf l j = p then left j else 0) (g := fun _ => 2000000000) (2 * l.length) fun j hj => by
      have := h.le hok hj
      show (if tailOf l j = p then left j else 0) ≤ 2000000000
      split <;> omega
    rw [sumTo_const] at this
    omega
theorem WorkAt.excb {m m' : Mem} {b : Nat} {N : Int} {l : List ArcI} {left left' : Nat → Int} {at_ : Nat → Value} (h : WorkAt m b N l left at_) (hm : Mexc (· = b) m m') (hg : m'.get b = some (.cells (wk N (toOf l) left' at_) 89 825)) : WorkAt m' b N l left' at_ :=
  ⟨hg, Nat.lt_of_lt_of_le h.2.1 hm.next, fun p hp => (h.2.2 p hp).exc hm⟩

set_option maxRecDepth 100000 in
theorem push_spec {Γ : YEnv} (hΓ : YMono Γ) (b s t : Nat) (N : Int) (l : List ArcI) (left : Nat → Int) (m : Mem) (hN : N ≤ 24) (hok : ∀ x ∈ l, ArcI.ok N x) (hl : l.length ≤ 200) (hs : (s : Int) < N) (ht : (t : Int) < N) (hst : s ≠ t) (hw : Work m b N l left) (hres : ResOk l left) :
    ACalls Try.prog Γ 35 [.pointer (some ⟨b, 0, none⟩), .int .i64 s, .int .i64 t] m fun r m' => ∃ (sum : Int) (left' lev : Nat → Int), r = .int .i64 sum ∧ 0 ≤ sum ∧ sum ≤ 800000000000 ∧ Mexc (· = b) m m' ∧ Work m' b N l left' ∧ ResOk l left' ∧
      (∀ p, atP l left' p = atP l left p - (if s = p then sum else 0) + (if t = p then sum else 0)) ∧ LevOk N l left' s lev ∧ lev t < 0 := by
  refine acallsW hΓ fok35 (by simp [X35]) fun Q hQ => ?_
  obtain ⟨at_, hw⟩ := hw
  have hb := hw.2.1
  simp (decide := true) only [S35_0, S35_1, S35_2, S35_3, S35_4, S35_5, S35_6, S35_7, S35_8, S35_9, S35_10, S35_11, S35_12, S35_13, S35_14, S35_15, S35_16, S35_17, S35_18, S35_19, S35_20, S35_21, S35_22, S35_23, S35_24, S35_25, S35_26, S35_27, S35_28, S35_29, S35_30, S35_31, S35_32, S35, X35, G35, EV2, MVn, qv, qvK, List.set_cons_zero, List.set_cons_succ, List.toList_toArray, Int.reduceToNat, Nat.reduceAdd, Nat.reduceMul, Nat.one_mul, Bool.not_true, Bool.not_false, EV, step, List.map_cons, List.map_nil, Option.map_some, Option.map_none, if_true, if_false, reduceIte, List.getElem?_cons_zero, List.getElem?_cons_succ, Option.getD_some, List.nil_append, List.append_nil, List.cons_append, List.getElem?_nil, Option.getD_none, true_implies, false_implies, not_true_eq_false, not_false_eq_true, and_true, true_and, decide_true, decide_false, Int.natCast_nonneg, Int.toNat_natCast, Nat.mul_one, List.size_toArray, List.getElem?_toArray, List.length_cons, List.length_nil, Nat.zero_add, Nat.add_zero, List.drop_zero, List.take_succ_cons, List.take_zero, List.drop_succ_cons, List.all_cons, List.all_nil, Bool.and_true, Bool.and_self, and_self]
  refine W_loop (fun k f m1 => ∃ (sum : Int) (left1 : Nat → Int), k = (atP l left1 s).toNat ∧ 0 ≤ sum ∧ Mexc (· = b) m m1 ∧ m.next + 2 ≤ m1.next ∧ m1.get m.next = some (.cells [.pointer (some ⟨b, 0, none⟩)] 82 1) ∧ m1.get (m.next + 1) = some (.cells [.int .i64 t] 3 1) ∧ WorkAt m1 b N l left1 at_ ∧ ResOk l left1 ∧
      (∀ p, atP l left1 p = atP l left p - (if s = p then sum else 0) + (if t = p then sum else 0)) ∧
      (f 1).v = .int .i64 s ∧ (f 3).v = .pointer (some ⟨m.next, 0, none⟩) ∧ (f 5).v = .pointer (some ⟨m.next + 1, 0, none⟩) ∧ (f 7).v = .int .i64 sum)
    _ ⟨0, left, rfl, by omega, (((Mext.refl m).new _).new _).exc _, by simp only [Mem.next_new]; omega, by simp (decide := true) only [EV2, MVn, qv, qvK, List.set_cons_zero, List.set_cons_succ, List.toList_toArray, Int.reduceToNat, Nat.reduceAdd, Nat.reduceMul, Nat.one_mul, Bool.not_true, Bool.not_false, EV, step, List.map_cons, List.map_nil, Option.map_some, Option.map_none, if_true, if_false, reduceIte, List.getElem?_cons_zero, List.getElem?_cons_succ, Option.getD_some, List.nil_append, List.append_nil, List.cons_append, List.getElem?_nil, Option.getD_none, true_implies, false_implies, not_true_eq_false, not_false_eq_true, and_true, true_and, decide_true, decide_false, Int.natCast_nonneg, Int.toNat_natCast, Nat.mul_one, List.size_toArray, List.getElem?_toArray, List.length_cons, List.length_nil, Nat.zero_add, Nat.add_zero, List.drop_zero, List.take_succ_cons, List.take_zero, List.drop_succ_cons, List.all_cons, List.all_nil, Bool.and_true, Bool.and_self, and_self], by simp (decide := true) only [EV2, MVn, qv, qvK, List.set_cons_zero, List.set_cons_succ, List.toList_toArray, Int.reduceToNat, Nat.reduceAdd, Nat.reduceMul, Nat.one_mul, Bool.not_true, Bool.not_false, EV, step, List.map_cons, List.map_nil, Option.map_some, Option.map_none, if_true, if_false, reduceIte, List.getElem?_cons_zero, List.getElem?_cons_succ, Option.getD_some, List.nil_append, List.append_nil, List.cons_append, List.getElem?_nil, Option.getD_none, true_implies, false_implies, not_true_eq_false, not_false_eq_true, and_true, true_and, decide_true, decide_false, Int.natCast_nonneg, Int.toNat_natCast, Nat.mul_one, List.size_toArray, List.getElem?_toArray, List.length_cons, List.length_nil, Nat.zero_add, Nat.add_zero, List.drop_zero, List.take_succ_cons, List.take_zero, List.drop_succ_cons, List.all_cons, List.all_nil, Bool.and_true, Bool.and_self, and_self], hw.mext (((Mext.refl m).new _).new _), hres, by intro p; split <;> split <;> omega, rfl, rfl, rfl, rfl⟩ hΓ ?_
  rintro k f m1 ⟨sum, left1, rfl, hsum, hm, hnx, g0, g1, hw1, hr1, hat, f1, f3, f5, f7⟩ Q1 hnr he hret
  have hb1 := hw1.2.1
  simp (decide := true) only [f1, f3, f5, f7, g0, EV2, MVn, qv, qvK, List.set_cons_zero, List.set_cons_succ, List.toList_toArray, Int.reduceToNat, Nat.reduceAdd, Nat.reduceMul, Nat.one_mul, Bool.not_true, Bool.not_false, EV, step, List.map_cons, List.map_nil, Option.map_some, Option.map_none, if_true, if_false, reduceIte, List.getElem?_cons_zero, List.getElem?_cons_succ, Option.getD_some, List.nil_append, List.append_nil, List.cons_append, List.getElem?_nil, Option.getD_none, true_implies, false_implies, not_true_eq_false, not_false_eq_true, and_true, true_and, decide_true, decide_false, Int.natCast_nonneg, Int.toNat_natCast, Nat.mul_one, List.size_toArray, List.getElem?_toArray, List.length_cons, List.length_nil, Nat.zero_add, Nat.add_zero, List.drop_zero, List.take_succ_cons, List.take_zero, List.drop_succ_cons, List.all_cons, List.all_nil, Bool.and_true, Bool.and_self, and_self]
  refine (levels_spec hΓ b N l left1 at_ s m1 hw1 hN hs hok hl).mono ?_
  rintro r m2 ⟨lev, rfl, hlev, hm2⟩
  have hm2n := hm2.next
  have n0 : (m.next = m2.next) = False := eq_false (by omega)
  have n1 : (m.next + 1 = m2.next) = False := eq_false (by omega)
  have h0 := (hm2.get _ (by omega)).trans g0
  have h1 := (hm2.get _ (by omega)).trans g1
  have ht24 : t < 24 := by omega
  have ht24' : ((t : Int) < ((24 : Nat) : Int)) = True := eq_true (by omega)
  have hs24 : s < 24 := by omega
  have hok24 := iv_okCell lev 24
  have hbs := at_bound hok hl hres s
  have hb1s := at_bound hok hl hr1 s
  have hsle : sum ≤ 800000000000 := by have := hat s; rw [if_pos rfl, if_neg (Ne.symm hst)] at this; omega
  by_cases hlt : lev t < 0
  · simp (decide := true) only [f1, f3, f5, f7, h0, h1, n0, n1, zc117, iv_len, iv_get, hok24, splice_all, ht24, ht24', hlt, EV2, MVn, qv, qvK, List.set_cons_zero, List.set_cons_succ, List.toList_toArray, Int.reduceToNat, Nat.reduceAdd, Nat.reduceMul, Nat.one_mul, Bool.not_true, Bool.not_false, EV, step, List.map_cons, List.map_nil, Option.map_some, Option.map_none, if_true, if_false, reduceIte, List.getElem?_cons_zero, List.getElem?_cons_succ, Option.getD_some, List.nil_append, List.append_nil, List.cons_append, List.getElem?_nil, Option.getD_none, true_implies, false_implies, not_true_eq_false, not_false_eq_true, and_true, true_and, decide_true, decide_false, Int.natCast_nonneg, Int.toNat_natCast, Nat.mul_one, List.size_toArray, List.getElem?_toArray, List.length_cons, List.length_nil, Nat.zero_add, Nat.add_zero, List.drop_zero, List.take_succ_cons, List.take_zero, List.drop_succ_cons, List.all_cons, List.all_nil, Bool.and_true, Bool.and_self, and_self]
    refine hret _ _ ?_
    simp (decide := true) only [f7, EV2, MVn, qv, qvK, List.set_cons_zero, List.set_cons_succ, List.toList_toArray, Int.reduceToNat, Nat.reduceAdd, Nat.reduceMul, Nat.one_mul, Bool.not_true, Bool.not_false, EV, step, List.map_cons, List.map_nil, Option.map_some, Option.map_none, if_true, if_false, reduceIte, List.getElem?_cons_zero, List.getElem?_cons_succ, Option.getD_some, List.nil_append, List.append_nil, List.cons_append, List.getElem?_nil, Option.getD_none, true_implies, false_implies, not_true_eq_false, not_false_eq_true, and_true, true_and, decide_true, decide_false, Int.natCast_nonneg, Int.toNat_natCast, Nat.mul_one, List.size_toArray, List.getElem?_toArray, List.length_cons, List.length_nil, Nat.zero_add, Nat.add_zero, List.drop_zero, List.take_succ_cons, List.take_zero, List.drop_succ_cons, List.all_cons, List.all_nil, Bool.and_true, Bool.and_self, and_self]
    have hm3 : Mext m1 ((m2.new (.cells (iv (fun _ => 0) 24) 117 24)).set m2.next (.cells (iv lev 24) 117 24)) := hm2.trans (((Mext.refl m2).new _).set (Nat.le_refl _) _)
    refine hQ _ _ _ ⟨.inr rfl, [.int .i64 sum], by simp [X35, R35, resL, sem, f7, Slot.v], sum, left1, lev, rfl, hsum, hsle, hm.trans (hm3.exc _), ⟨at_, hw1.mext hm3⟩, hr1, hat, hlev, hlt⟩
  · simp (decide := true) only [f1, f3, f5, f7, h0, h1, n0, n1, zc117, zc119, iv_len, iv_get, hok24, splice_all, ht24, ht24', hlt, EV2, MVn, qv, qvK, List.set_cons_zero, List.set_cons_succ, List.toList_toArray, Int.reduceToNat, Nat.reduceAdd, Nat.reduceMul, Nat.one_mul, Bool.not_true, Bool.not_false, EV, step, List.map_cons, List.map_nil, Option.map_some, Option.map_none, if_true, if_false, reduceIte, List.getElem?_cons_zero, List.getElem?_cons_succ, Option.getD_some, List.nil_append, List.append_nil, List.cons_append, List.getElem?_nil, Option.getD_none, true_implies, false_implies, not_true_eq_false, not_false_eq_true, and_true, true_and, decide_true, decide_false, Int.natCast_nonneg, Int.toNat_natCast, Nat.mul_one, List.size_toArray, List.getElem?_toArray, List.length_cons, List.length_nil, Nat.zero_add, Nat.add_zero, List.drop_zero, List.take_succ_cons, List.take_zero, List.drop_succ_cons, List.all_cons, List.all_nil, Bool.and_true, Bool.and_self, and_self]
    refine ⟨rfl, ?_⟩
    generalize hmA : Mem.set _ (m2.next + 1 + 1) (AObj.cells [Value.func (.func 53) #[] _] 119 1) = mA
    have hA : Mext m2 mA := by rw [← hmA]; exact (((((Mext.refl m2).new _).set (Nat.le_refl _) _).new _).new _).set (by omega) _
    have hAn : mA.next = m2.next + 3 := by rw [← hmA]; simp only [next_set, Mem.next_new]
    have hp : PRows mA b (m.next + 1) (m2.next + 1) m.next m2.next (m2.next + 1 + 1) t lev := by
      refine ⟨(hA.get _ (by omega)).trans h1, (hA.get _ (by omega)).trans h0, ?_, ?_, by omega, by omega, by omega⟩
      · rw [← hmA]; simp (decide := true) only [EV2, MVn, qv, qvK, List.set_cons_zero, List.set_cons_succ, List.toList_toArray, Int.reduceToNat, Nat.reduceAdd, Nat.reduceMul, Nat.one_mul, Bool.not_true, Bool.not_false, EV, step, List.map_cons, List.map_nil, Option.map_some, Option.map_none, if_true, if_false, reduceIte, List.getElem?_cons_zero, List.getElem?_cons_succ, Option.getD_some, List.nil_append, List.append_nil, List.cons_append, List.getElem?_nil, Option.getD_none, true_implies, false_implies, not_true_eq_false, not_false_eq_true, and_true, true_and, decide_true, decide_false, Int.natCast_nonneg, Int.toNat_natCast, Nat.mul_one, List.size_toArray, List.getElem?_toArray, List.length_cons, List.length_nil, Nat.zero_add, Nat.add_zero, List.drop_zero, List.take_succ_cons, List.take_zero, List.drop_succ_cons, List.all_cons, List.all_nil, Bool.and_true, Bool.and_self, and_self]
      · rw [← hmA]; simp (decide := true) only [EV2, MVn, qv, qvK, List.set_cons_zero, List.set_cons_succ, List.toList_toArray, Int.reduceToNat, Nat.reduceAdd, Nat.reduceMul, Nat.one_mul, Bool.not_true, Bool.not_false, EV, step, List.map_cons, List.map_nil, Option.map_some, Option.map_none, if_true, if_false, reduceIte, List.getElem?_cons_zero, List.getElem?_cons_succ, Option.getD_some, List.nil_append, List.append_nil, List.cons_append, List.getElem?_nil, Option.getD_none, true_implies, false_implies, not_true_eq_false, not_false_eq_true, and_true, true_and, decide_true, decide_false, Int.natCast_nonneg, Int.toNat_natCast, Nat.mul_one, List.size_toArray, List.getElem?_toArray, List.length_cons, List.length_nil, Nat.zero_add, Nat.add_zero, List.drop_zero, List.take_succ_cons, List.take_zero, List.drop_succ_cons, List.all_cons, List.all_nil, Bool.and_true, Bool.and_self, and_self]
    have hn : mA.get (m2.next + 1) = some (.cells (iv (nI fun _ => 0) 24) 117 24) := by rw [← hmA]; simp (decide := true) only [EV2, MVn, qv, qvK, List.set_cons_zero, List.set_cons_succ, List.toList_toArray, Int.reduceToNat, Nat.reduceAdd, Nat.reduceMul, Nat.one_mul, Bool.not_true, Bool.not_false, EV, step, List.map_cons, List.map_nil, Option.map_some, Option.map_none, if_true, if_false, reduceIte, List.getElem?_cons_zero, List.getElem?_cons_succ, Option.getD_some, List.nil_append, List.append_nil, List.cons_append, List.getElem?_nil, Option.getD_none, true_implies, false_implies, not_true_eq_false, not_false_eq_true, and_true, true_and, decide_true, decide_false, Int.natCast_nonneg, Int.toNat_natCast, Nat.mul_one, List.size_toArray, List.getElem?_toArray, List.length_cons, List.length_nil, Nat.zero_add, Nat.add_zero, List.drop_zero, List.take_succ_cons, List.take_zero, List.drop_succ_cons, List.all_cons, List.all_nil, Bool.and_true, Bool.and_self, and_self]; rfl
    clear hmA
    have hw2 := hw1.mext (hm2.trans hA)
    have hoff : AtOff (m2.next + 1) at_ := fun p hp a n c hv => by have := ((hw1.2.2 p hp).lt a n c hv).1; omega
    have hlev24 : ∀ p, p < 24 → lev p < 24 := fun p hp => by rcases hlev.all p hp with h | h <;> omega
    refine (widen_spec hΓ b (m.next + 1) (m2.next + 1) m.next m2.next (m2.next + 1 + 1) t s N l at_ lev hN hok hl ht hlev24 hoff 24 s 200000000000 left1 (fun _ => 0) mA (by rw [hlev.src]; omega) hs (by rw [hlev.src]; omega) (by omega) (by omega) hp hw2 hn hr1 (fun _ _ => Nat.zero_le _)).mono ?_
    rintro r m3 ⟨x, left2, nx2, rfl, hx0, hxm, hm3, hw3, hn3, hpush, hnxl, hnxlow, hzero⟩
    have hxpos : 0 < x := by
      by_cases h : x = 0
      · obtain ⟨rfl, hz⟩ := hzero h
        obtain ⟨hd, hz2, hz3⟩ := hz (fun p hp i hi => absurd hi (Nat.not_lt_zero _))
        exact (Dead.none hlev hs24 ht24 hst hd hz2 (by omega)).elim
      · omega
    have hmA : Mexc (· = b) m mA := hm.trans ((hm2.trans hA).exc _)
    have hmE : ∀ {m4 : Mem}, Mexc (fun i => i = b ∨ i = m2.next + 1) mA m4 → Mexc (· = b) m m4 := fun {m4} h => ⟨Nat.le_trans hmA.next h.next, fun i hi hn => (h.get i (by omega) (by rintro (e | e); exact hn e; omega)).trans (hmA.get i hi hn)⟩
    refine W_loop (fun k f m4 => ∃ (sum2 x : Int) (left3 : Nat → Int) (nx3 : Nat → Nat), k = (atP l left3 s).toNat + (if 0 < x then 1 else 0) ∧ 0 ≤ x ∧ sum ≤ sum2 ∧ sum < sum2 + x ∧ Mexc (fun i => i = b ∨ i = m2.next + 1) mA m4 ∧ WorkAt m4 b N l left3 at_ ∧ m4.get (m2.next + 1) = some (.cells (iv (nI nx3) 24) 117 24) ∧ ResOk l left3 ∧
        (∀ p, p < 24 → nx3 p ≤ (adjN l p).length) ∧ (∀ p, atP l left3 p = atP l left p - (if s = p then sum2 + x else 0) + (if t = p then sum2 + x else 0)) ∧
        (f 1).v = .int .i64 s ∧ (f 3).v = .pointer (some ⟨m.next, 0, none⟩) ∧ (f 5).v = .pointer (some ⟨m.next + 1, 0, none⟩) ∧ (f 7).v = .int .i64 sum2 ∧ (f 10).v = .pointer (some ⟨m2.next + 1 + 1, 0, none⟩) ∧ (f 11).v = .int .i64 x)
      _ ⟨sum, x, left2, nx2, rfl, hx0, by omega, by omega, hm3, hw3, hn3, hpush.ok, hnxl, ?_, by simp [sem, f1], by simp [sem, f3], by simp [sem, f5], by simp [sem, f7], by simp [sem, Slot.v], by simp [sem, Slot.v]⟩ hΓ ?_
    · intro p; rw [hpush.sum, hat]; split <;> split <;> omega
    clear hzero hnxlow hpush hnxl hn3 hw3 hm3 hxpos hxm hx0
    rintro k f4 m4 ⟨sum2, x, left3, nx3, rfl, hx0, hs1, hs2, hm4, hw4, hn4, hr4, hnxl, hat4, f1, f3, f5, f7, f10, f11⟩ Q4 hnr4 he4 hret4
    have hp4 := hp.exc hm4
    have hb4 := at_bound hok hl hr4 s
    have hs4 := hat4 s
    rw [if_pos rfl, if_neg (Ne.symm hst)] at hs4
    by_cases hx : 0 < x
    · have hws : IntKind.wrap .i64 (sum2 + x) = sum2 + x := wrap_i64 (by omega) (by omega)
      simp (decide := true) only [f1, f3, f5, f7, f10, f11, hx, hws, hp4.f, EV2, MVn, qv, qvK, List.set_cons_zero, List.set_cons_succ, List.toList_toArray, Int.reduceToNat, Nat.reduceAdd, Nat.reduceMul, Nat.one_mul, Bool.not_true, Bool.not_false, EV, step, List.map_cons, List.map_nil, Option.map_some, Option.map_none, if_true, if_false, reduceIte, List.getElem?_cons_zero, List.getElem?_cons_succ, Option.getD_some, List.nil_append, List.append_nil, List.cons_append, List.getElem?_nil, Option.getD_none, true_implies, false_implies, not_true_eq_false, not_false_eq_true, and_true, true_and, decide_true, decide_false, Int.natCast_nonneg, Int.toNat_natCast, Nat.mul_one, List.size_toArray, List.getElem?_toArray, List.length_cons, List.length_nil, Nat.zero_add, Nat.add_zero, List.drop_zero, List.take_succ_cons, List.take_zero, List.drop_succ_cons, List.all_cons, List.all_nil, Bool.and_true, Bool.and_self, and_self]
      refine (widen_spec hΓ b (m.next + 1) (m2.next + 1) m.next m2.next (m2.next + 1 + 1) t s N l at_ lev hN hok hl ht hlev24 hoff 24 s 200000000000 left3 nx3 m4 (by rw [hlev.src]; omega) hs (by rw [hlev.src]; omega) (by omega) (by omega) hp4 hw4 hn4 hr4 hnxl).mono ?_
      rintro r m5 ⟨y, left5, nx5, rfl, hy0, hym, hm5, hw5, hn5, hpush, hnxl5, hnxlow5, hzero5⟩
      have hat5 : ∀ p, atP l left5 p = atP l left p - (if s = p then sum2 + x + y else 0) + (if t = p then sum2 + x + y else 0) := fun p => by rw [hpush.sum, hat4]; split <;> split <;> omega
      refine hnr4 _ _ _ ?_ ⟨sum2 + x, y, left5, nx5, rfl, hy0, by omega, by omega, hm4.trans hm5, hw5, hn5, hpush.ok, hnxl5, hat5, by simp [sem, f1], by simp [sem, f3], by simp [sem, f5], by simp [sem, Slot.v], by simp [sem, f10], by simp [sem, Slot.v]⟩
      have hb5 := at_bound hok hl hpush.ok s
      have := hat5 s
      rw [if_pos rfl, if_neg (Ne.symm hst)] at this
      rw [if_pos hx]
      split <;> omega
    · have hx1 : x = 0 := by omega
      subst hx1
      simp (decide := true) only [f11, EV2, MVn, qv, qvK, List.set_cons_zero, List.set_cons_succ, List.toList_toArray, Int.reduceToNat, Nat.reduceAdd, Nat.reduceMul, Nat.one_mul, Bool.not_true, Bool.not_false, EV, step, List.map_cons, List.map_nil, Option.map_some, Option.map_none, if_true, if_false, reduceIte, List.getElem?_cons_zero, List.getElem?_cons_succ, Option.getD_some, List.nil_append, List.append_nil, List.cons_append, List.getElem?_nil, Option.getD_none, true_implies, false_implies, not_true_eq_false, not_false_eq_true, and_true, true_and, decide_true, decide_false, Int.natCast_nonneg, Int.toNat_natCast, Nat.mul_one, List.size_toArray, List.getElem?_toArray, List.length_cons, List.length_nil, Nat.zero_add, Nat.add_zero, List.drop_zero, List.take_succ_cons, List.take_zero, List.drop_succ_cons, List.all_cons, List.all_nil, Bool.and_true, Bool.and_self, and_self]
      refine he4 _ _ _ ?_
      simp (decide := true) only [EV2, MVn, qv, qvK, List.set_cons_zero, List.set_cons_succ, List.toList_toArray, Int.reduceToNat, Nat.reduceAdd, Nat.reduceMul, Nat.one_mul, Bool.not_true, Bool.not_false, EV, step, List.map_cons, List.map_nil, Option.map_some, Option.map_none, if_true, if_false, reduceIte, List.getElem?_cons_zero, List.getElem?_cons_succ, Option.getD_some, List.nil_append, List.append_nil, List.cons_append, List.getElem?_nil, Option.getD_none, true_implies, false_implies, not_true_eq_false, not_false_eq_true, and_true, true_and, decide_true, decide_false, Int.natCast_nonneg, Int.toNat_natCast, Nat.mul_one, List.size_toArray, List.getElem?_toArray, List.length_cons, List.length_nil, Nat.zero_add, Nat.add_zero, List.drop_zero, List.take_succ_cons, List.take_zero, List.drop_succ_cons, List.all_cons, List.all_nil, Bool.and_true, Bool.and_self, and_self]
      have hm4n := hm4.next
      refine hnr _ _ _ ?_ ⟨sum2, left3, rfl, by omega, hmE hm4, by omega, hp4.w, hp4.t, hw4, hr4, fun p => by rw [hat4, Int.add_zero], by simp [sem, f1], by simp [sem, f3], by simp [sem, f5], by simp [sem, f7]⟩
      have := hat s
      rw [if_pos rfl, if_neg (Ne.symm hst)] at this
      omega

/-! ### Contracts of flow: reached, Most, Cut. -/
def reachL (lev : Nat → Int) (n : Nat) : List Nat := (List.range n).filter fun p => decide (0 ≤ lev p)
theorem reachL_succ (lev : Nat → Int) (n : Nat) : reachL lev (n + 1) = if 0 ≤ lev n then reachL lev n ++ [n] else reachL lev n := by
  unfold reachL
  rw [List.range_succ, List.filter_append]
  by_cases h : 0 ≤ lev n <;> simp [h]
theorem reachL_len (lev : Nat → Int) (n : Nat) : (reachL lev n).length ≤ n := by unfold reachL; exact Nat.le_trans (List.length_filter_le ..) (by simp)
theorem iv_arr (lev : Nat → Int) {k : Nat} (h : k < 24) : (iv lev 24).toArray[k]? = some (.int .i64 (lev k)) := by rw [List.getElem?_toArray, iv_get _ h]

set_option maxRecDepth 100000 in
theorem reached_spec {Γ : YEnv} (hΓ : YMono Γ) (b : Nat) (N : Int) (l : List ArcI) (left : Nat → Int) (s : Nat) (m : Mem) (hw : Work m b N l left) (hN : N ≤ 24) (hs : (s : Int) < N) (hok : ∀ x ∈ l, ArcI.ok N x) (hl : l.length ≤ 200) :
    ACalls Try.prog Γ 36 [.pointer (some ⟨b, 0, none⟩), .int .i64 s] m fun r m' => ∃ lev, Acc m m' r (intCells (natI (reachL lev 24))) 3 1 ∧ LevOk N l left s lev ∧ Mext m m' := by
  refine acallsW hΓ fok36 (by simp [X36]) fun Q hQ => ?_
  obtain ⟨at_, hw⟩ := hw
  simp (decide := true) only [S36_0, S36_1, S36_2, S36_3, S36_4, S36_5, S36_6, S36_7, S36_8, S36_9, S36_10, S36_11, S36_12, S36_13, S36_14, S36_15, S36_16, S36_17, S36_18, S36_19, S36_20, S36_21, S36_22, S36_23, S36, X36, G36, EV2, MVn, qv, qvK, List.set_cons_zero, List.set_cons_succ, List.toList_toArray, Int.reduceToNat, Nat.reduceAdd, Nat.reduceMul, Nat.one_mul, Bool.not_true, Bool.not_false, EV, step, List.map_cons, List.map_nil, Option.map_some, Option.map_none, if_true, if_false, reduceIte, List.getElem?_cons_zero, List.getElem?_cons_succ, Option.getD_some, List.nil_append, List.append_nil, List.cons_append, List.getElem?_nil, Option.getD_none, true_implies, false_implies, not_true_eq_false, not_false_eq_true, and_true, true_and, decide_true, decide_false, Int.natCast_nonneg, Int.toNat_natCast, Nat.mul_one, List.size_toArray, List.getElem?_toArray, List.length_cons, List.length_nil, Nat.zero_add, Nat.add_zero, List.drop_zero, List.take_succ_cons, List.take_zero, List.drop_succ_cons, List.all_cons, List.all_nil, Bool.and_true, Bool.and_self, and_self]
  refine (levels_spec hΓ b N l left at_ s m hw hN hs hok hl).mono ?_
  rintro r m1 ⟨lev, rfl, hlev, hm1⟩
  refine W_loop (fun k f m2 => ∃ (i : Nat) (v : Value), i ≤ 24 ∧ k = 24 - i ∧ Mext m m2 ∧ Acc m m2 v (intCells (natI (reachL lev i))) 3 1 ∧ (f 5).v = v ∧ (f 10).v = .agg (iv lev 24).toArray ∧ (f 11).v = .int .i64 i)
    24 ⟨0, _, by omega, rfl, hm1, .inl ⟨rfl, rfl⟩, rfl, by simp [sem, Slot.v], rfl⟩ hΓ ?_
  rintro k f m2 ⟨i, v, hi, rfl, hm, hacc, f5, f10, f11⟩ Q1 hn he hret
  by_cases hlt : i < 24
  · have hlt' : ((i : Int) < 24) = True := eq_true (by omega)
    have hlt2 : ((i : Int) < ((24 : Nat) : Int)) = True := eq_true (by omega)
    have hw1 : IntKind.wrap .i64 ((i : Int) + 1) = ((i + 1 : Nat) : Int) := by rw [wrap_i64 (by omega) (by omega)]; omega
    by_cases h : 0 ≤ lev i
    · obtain ⟨v', m3, ha, hacc2, ⟨nn, cc, rfl⟩, hnext, hkeep⟩ := app1_acc2 (bytes := 8) (x := [.int .i64 (i : Int)]) hacc hm.next (intCells_one _) rfl rfl (by rw [intCells_len, natI_len]; have := reachL_len lev i; omega) (by omega)
      simp (decide := true) only [f5, f10, f11, hlt', hlt2, hw1, iv_get, hlt, h, zeros31, ha, List.length_singleton, EV2, MVn, qv, qvK, List.set_cons_zero, List.set_cons_succ, List.toList_toArray, Int.reduceToNat, Nat.reduceAdd, Nat.reduceMul, Nat.one_mul, Bool.not_true, Bool.not_false, EV, step, List.map_cons, List.map_nil, Option.map_some, Option.map_none, if_true, if_false, reduceIte, List.getElem?_cons_zero, List.getElem?_cons_succ, Option.getD_some, List.nil_append, List.append_nil, List.cons_append, List.getElem?_nil, Option.getD_none, true_implies, false_implies, not_true_eq_false, not_false_eq_true, and_true, true_and, decide_true, decide_false, Int.natCast_nonneg, Int.toNat_natCast, Nat.mul_one, List.size_toArray, List.getElem?_toArray, List.length_cons, List.length_nil, Nat.zero_add, Nat.add_zero, List.drop_zero, List.take_succ_cons, List.take_zero, List.drop_succ_cons, List.all_cons, List.all_nil, Bool.and_true, Bool.and_self, and_self]
      refine hn _ _ _ (by omega) ⟨i + 1, _, hlt, rfl, ⟨by have := hm.next; omega, fun j hj => (hkeep j (by have := hm.next; omega) (hacc.off hj)).trans (hm.get j hj)⟩, ?_, rfl, by simp [sem, f10], by simp [sem, Slot.v]⟩
      rw [reachL_succ, if_pos h, natI_snoc, ← intCells_snoc]; exact hacc2
    · simp (decide := true) only [f5, f10, f11, hlt', hlt2, hw1, iv_get, hlt, h, EV2, MVn, qv, qvK, List.set_cons_zero, List.set_cons_succ, List.toList_toArray, Int.reduceToNat, Nat.reduceAdd, Nat.reduceMul, Nat.one_mul, Bool.not_true, Bool.not_false, EV, step, List.map_cons, List.map_nil, Option.map_some, Option.map_none, if_true, if_false, reduceIte, List.getElem?_cons_zero, List.getElem?_cons_succ, Option.getD_some, List.nil_append, List.append_nil, List.cons_append, List.getElem?_nil, Option.getD_none, true_implies, false_implies, not_true_eq_false, not_false_eq_true, and_true, true_and, decide_true, decide_false, Int.natCast_nonneg, Int.toNat_natCast, Nat.mul_one, List.size_toArray, List.getElem?_toArray, List.length_cons, List.length_nil, Nat.zero_add, Nat.add_zero, List.drop_zero, List.take_succ_cons, List.take_zero, List.drop_succ_cons, List.all_cons, List.all_nil, Bool.and_true, Bool.and_self, and_self]
      refine hn _ _ _ (by omega) ⟨i + 1, v, hlt, rfl, hm, ?_, by simp [sem, f5], by simp [sem, f10], by simp [sem, Slot.v]⟩
      rw [reachL_succ, if_neg h]; exact hacc
  · have hlt' : ((i : Int) < 24) = False := eq_false (by omega)
    have : i = 24 := by omega
    subst this
    simp (decide := true) only [f11, hlt', EV2, MVn, qv, qvK, List.set_cons_zero, List.set_cons_succ, List.toList_toArray, Int.reduceToNat, Nat.reduceAdd, Nat.reduceMul, Nat.one_mul, Bool.not_true, Bool.not_false, EV, step, List.map_cons, List.map_nil, Option.map_some, Option.map_none, if_true, if_false, reduceIte, List.getElem?_cons_zero, List.getElem?_cons_succ, Option.getD_some, List.nil_append, List.append_nil, List.cons_append, List.getElem?_nil, Option.getD_none, true_implies, false_implies, not_true_eq_false, not_false_eq_true, and_true, true_and, decide_true, decide_false, Int.natCast_nonneg, Int.toNat_natCast, Nat.mul_one, List.size_toArray, List.getElem?_toArray, List.length_cons, List.length_nil, Nat.zero_add, Nat.add_zero, List.drop_zero, List.take_succ_cons, List.take_zero, List.drop_succ_cons, List.all_cons, List.all_nil, Bool.and_true, Bool.and_self, and_self]
    refine he _ _ _ ?_
    simp (decide := true) only [f5, EV2, MVn, qv, qvK, List.set_cons_zero, List.set_cons_succ, List.toList_toArray, Int.reduceToNat, Nat.reduceAdd, Nat.reduceMul, Nat.one_mul, Bool.not_true, Bool.not_false, EV, step, List.map_cons, List.map_nil, Option.map_some, Option.map_none, if_true, if_false, reduceIte, List.getElem?_cons_zero, List.getElem?_cons_succ, Option.getD_some, List.nil_append, List.append_nil, List.cons_append, List.getElem?_nil, Option.getD_none, true_implies, false_implies, not_true_eq_false, not_false_eq_true, and_true, true_and, decide_true, decide_false, Int.natCast_nonneg, Int.toNat_natCast, Nat.mul_one, List.size_toArray, List.getElem?_toArray, List.length_cons, List.length_nil, Nat.zero_add, Nat.add_zero, List.drop_zero, List.take_succ_cons, List.take_zero, List.drop_succ_cons, List.all_cons, List.all_nil, Bool.and_true, Bool.and_self, and_self]
    exact hQ _ _ _ ⟨.inr rfl, [v], by simp [X36, R36, resL, sem, f5, Slot.v], lev, hacc, hlev, hm⟩

/-- What Most and Cut find. -/
structure Found (N : Int) (l : List ArcI) (s t : Nat) (value : Int) (left lev : Nat → Int) : Prop where
  pos : 0 ≤ value
  le : value ≤ 800000000000
  ok : ResOk l left
  sum : ∀ p, atP l left p = atP l (capOf l) p - (if s = p then value else 0) + (if t = p then value else 0)
  levOk : LevOk N l left s lev
  cut : lev t < 0
def flowOf (l : List ArcI) (left : Nat → Int) (n : Nat) : List Int := (List.range n).map fun k => capOf l (2 * k) - left (2 * k)
theorem flowOf_succ (l : List ArcI) (left : Nat → Int) (n : Nat) : flowOf l left (n + 1) = flowOf l left n ++ [capOf l (2 * n) - left (2 * n)] := by unfold flowOf; rw [List.range_succ, List.map_append]; rfl
theorem Arcs.ld {m : Mem} {ao : Option Addr} {n c : Nat} {l : List ArcI} (h : Arcs m (.slice ao n c) l) {j : Nat} (hj : j < l.length) : ∃ a, ao = some a ∧ n = l.length ∧ a.block < m.next ∧ cellsO (m.get a.block) (a.off + j * 3) 3 = some (l[j]'hj).cells ∧
    cellO (m.get a.block) (a.off + j * 3) = some (.int .i64 (l[j]'hj).f) ∧ cellO (m.get a.block) (a.off + j * 3 + 1) = some (.int .i64 (l[j]'hj).t) ∧ cellO (m.get a.block) (a.off + j * 3 + 2) = some (.int .i64 (l[j]'hj).c) := by
  obtain ⟨a', c', hl⟩ := h.len
  cases hl
  cases ao with
  | none => have := h.nil _ _ rfl; subst this; simp at hj
  | some a =>
    have hc := h.get _ _ _ rfl j _ (List.getElem?_eq_getElem hj)
    rw [cells_get] at hc
    refine ⟨a, rfl, rfl, h.lt _ _ _ rfl, hc, ?_⟩
    unfold cellsO at hc
    unfold cellO
    cases hr : rowO (m.get a.block) with
    | none => rw [hr] at hc; cases hc
    | some cs =>
      rw [hr] at hc
      simp only [Option.bind_some] at hc ⊢
      split at hc
      · have hc := Option.some.inj hc
        have key : ∀ k, k < 3 → cs[a.off + j * 3 + k]? = (l[j]'hj).cells[k]? := fun k hk => by
          rw [← hc, List.getElem?_take_of_lt hk, List.getElem?_drop]
        exact ⟨key 0 (by omega), key 1 (by omega), key 2 (by omega)⟩
      · cases hc

set_option maxRecDepth 100000 in
theorem Most_spec {Γ : YEnv} (hΓ : YMono Γ) (N : Int) (l : List ArcI) (v : Value) (s t : Nat) (m : Mem) (h : Arcs m v l) (hnet : NetOk N l) (hs : (s : Int) < N) (ht : (t : Int) < N) (hst : s ≠ t) :
    ACalls Try.prog Γ 14 [.agg #[.int .i64 N, v], .int .i64 s, .int .i64 t] m fun r m' => ∃ (value : Int) (left lev : Nat → Int) (vf : Value), r = .tuple #[.int .i64 value, vf, .int .i64 0] ∧ Found N l s t value left lev ∧ Acc m m' vf (intCells (flowOf l left l.length)) 2 1 ∧ Mext m m' := by
  refine acallsW hΓ fok14 (by simp [X14]) fun Q hQ => ?_
  obtain ⟨h2, h24, h200, hok⟩ := hnet
  have hnet : NetOk N l := ⟨h2, h24, h200, hok⟩
  obtain ⟨ao, c, rfl⟩ := h.len
  have hm1 : Mext m (m.new (.cells [.int .i64 N, .slice ao l.length c] 32 2)) := (Mext.refl m).new _
  simp (decide := true) only [S14_0, S14_1, S14_2, S14_3, S14_4, S14_5, S14_6, S14_7, S14_8, S14_9, S14_10, S14_11, S14_12, S14_13, S14_14, S14_15, S14_16, S14_17, S14_18, S14_19, S14_20, S14_21, S14_22, S14_23, S14_24, S14_25, S14_26, S14_27, S14_28, S14_29, S14_30, S14_31, S14_32, S14_33, S14_34, S14_35, S14_36, S14, X14, G14, EV2, MVn, qv, qvK, List.set_cons_zero, List.set_cons_succ, List.toList_toArray, Int.reduceToNat, Nat.reduceAdd, Nat.reduceMul, Nat.one_mul, Bool.not_true, Bool.not_false, EV, step, List.map_cons, List.map_nil, Option.map_some, Option.map_none, if_true, if_false, reduceIte, List.getElem?_cons_zero, List.getElem?_cons_succ, Option.getD_some, List.nil_append, List.append_nil, List.cons_append, List.getElem?_nil, Option.getD_none, true_implies, false_implies, not_true_eq_false, not_false_eq_true, and_true, true_and, decide_true, decide_false, Int.natCast_nonneg, Int.toNat_natCast, Nat.mul_one, List.size_toArray, List.getElem?_toArray, List.length_cons, List.length_nil, Nat.zero_add, Nat.add_zero, List.drop_zero, List.take_succ_cons, List.take_zero, List.drop_succ_cons, List.all_cons, List.all_nil, Bool.and_true, Bool.and_self, and_self]
  refine (check_spec hΓ N l _ _ (h.mext hm1) (by omega)).mono ?_
  rintro r m2 ⟨rfl, hm2⟩
  have g2 : m2.get m.next = some (.cells [.int .i64 N, .slice ao l.length c] 32 2) := (hm2.get _ (by rw [Mem.next_new]; omega)).trans (Mem.get_new _ _)
  simp (decide := true) only [eq_true hnet, g2, ne_eq, EV2, MVn, qv, qvK, List.set_cons_zero, List.set_cons_succ, List.toList_toArray, Int.reduceToNat, Nat.reduceAdd, Nat.reduceMul, Nat.one_mul, Bool.not_true, Bool.not_false, EV, step, List.map_cons, List.map_nil, Option.map_some, Option.map_none, if_true, if_false, reduceIte, List.getElem?_cons_zero, List.getElem?_cons_succ, Option.getD_some, List.nil_append, List.append_nil, List.cons_append, List.getElem?_nil, Option.getD_none, true_implies, false_implies, not_true_eq_false, not_false_eq_true, and_true, true_and, decide_true, decide_false, Int.natCast_nonneg, Int.toNat_natCast, Nat.mul_one, List.size_toArray, List.getElem?_toArray, List.length_cons, List.length_nil, Nat.zero_add, Nat.add_zero, List.drop_zero, List.take_succ_cons, List.take_zero, List.drop_succ_cons, List.all_cons, List.all_nil, Bool.and_true, Bool.and_self, and_self]
  refine (areEnds_spec hΓ N s t m2).mono ?_
  rintro r m3 ⟨rfl, rfl⟩
  have hends : EndsOk N s t := ⟨by omega, by omega, by omega⟩
  have hlt2 := hm2.next
  rw [Mem.next_new] at hlt2
  simp (decide := true) only [eq_true hends, g2, ne_eq, EV2, MVn, qv, qvK, List.set_cons_zero, List.set_cons_succ, List.toList_toArray, Int.reduceToNat, Nat.reduceAdd, Nat.reduceMul, Nat.one_mul, Bool.not_true, Bool.not_false, EV, step, List.map_cons, List.map_nil, Option.map_some, Option.map_none, if_true, if_false, reduceIte, List.getElem?_cons_zero, List.getElem?_cons_succ, Option.getD_some, List.nil_append, List.append_nil, List.cons_append, List.getElem?_nil, Option.getD_none, true_implies, false_implies, not_true_eq_false, not_false_eq_true, and_true, true_and, decide_true, decide_false, Int.natCast_nonneg, Int.toNat_natCast, Nat.mul_one, List.size_toArray, List.getElem?_toArray, List.length_cons, List.length_nil, Nat.zero_add, Nat.add_zero, List.drop_zero, List.take_succ_cons, List.take_zero, List.drop_succ_cons, List.all_cons, List.all_nil, Bool.and_true, Bool.and_self, and_self]
  refine (newWork_spec hΓ N ⟨m.next, 0, none⟩ l _ 32 2 m3 (h.mext (hm1.trans hm2)) g2 rfl (by show m.next < m3.next; omega) h2 h24 hok h200).mono ?_
  rintro r m4 ⟨b, rfl, hb, hw, hm4⟩
  refine (push_spec hΓ b s t N l (capOf l) m4 h24 hok h200 hs ht hst hw (ResOk.start hok)).mono ?_
  rintro r m5 ⟨value, left, lev, rfl, p1, p2, hm5, hw5, p3, p4, p5, p6⟩
  have hf : Found N l s t value left lev := ⟨p1, p2, p3, p4, p5, p6⟩
  have g5 : m5.get m.next = some (.cells [.int .i64 N, .slice ao l.length c] 32 2) := (hm5.get _ (by have := hm4.next; omega) (by omega)).trans ((hm4.get _ (by omega)).trans g2)
  have hmm5 : Mext m m5 := ⟨by have := hm4.next; have := hm5.next; omega, fun i hi => (hm5.get i (by have := hm4.next; omega) (by omega)).trans (((hm1.trans hm2).trans hm4).get i hi)⟩
  obtain ⟨at_, hw5⟩ := hw5
  simp (decide := true) only [g5, EV2, MVn, qv, qvK, List.set_cons_zero, List.set_cons_succ, List.toList_toArray, Int.reduceToNat, Nat.reduceAdd, Nat.reduceMul, Nat.one_mul, Bool.not_true, Bool.not_false, EV, step, List.map_cons, List.map_nil, Option.map_some, Option.map_none, if_true, if_false, reduceIte, List.getElem?_cons_zero, List.getElem?_cons_succ, Option.getD_some, List.nil_append, List.append_nil, List.cons_append, List.getElem?_nil, Option.getD_none, true_implies, false_implies, not_true_eq_false, not_false_eq_true, and_true, true_and, decide_true, decide_false, Int.natCast_nonneg, Int.toNat_natCast, Nat.mul_one, List.size_toArray, List.getElem?_toArray, List.length_cons, List.length_nil, Nat.zero_add, Nat.add_zero, List.drop_zero, List.take_succ_cons, List.take_zero, List.drop_succ_cons, List.all_cons, List.all_nil, Bool.and_true, Bool.and_self, and_self]
  refine W_loop (fun k f m6 => ∃ (i : Nat) (vf : Value), i ≤ l.length ∧ k = l.length - i ∧ Mext m m6 ∧ Mext m5 m6 ∧ Acc m5 m6 vf (intCells (flowOf l left i)) 2 1 ∧
      (f 6).v = .int .i64 value ∧ (f 7).v = vf ∧ (f 10).v = .pointer (some ⟨b, 0, none⟩) ∧ (f 31).v = .slice ao l.length c ∧ (f 32).v = .int .i64 l.length ∧ (f 33).v = .int .i64 i)
    l.length ⟨0, _, by omega, rfl, hmm5, Mext.refl _, .inl ⟨rfl, rfl⟩, rfl, rfl, by simp [sem, Slot.v], by simp [sem, Slot.v], by simp [sem, Slot.v], by simp [sem, Slot.v]⟩ hΓ ?_
  rintro k f m6 ⟨i, vf, hi, rfl, hm, hm6, hacc, f6, f7, f10, f31, f32, f33⟩ Q1 hn he hret
  by_cases hlt : i < l.length
  · have hlt' : ((i : Int) < l.length) = True := eq_true (by omega)
    have hw1 : IntKind.wrap .i64 ((i : Int) + 1) = ((i + 1 : Nat) : Int) := by rw [wrap_i64 (by omega) (by omega)]; omega
    have hw2 : IntKind.wrap .i64 (2 * (i : Int)) = ((2 * i : Nat) : Int) := by rw [wrap_i64 (by omega) (by omega)]; omega
    obtain ⟨a, rfl, _, ha, hcs, _⟩ := (h.mext hm).ld hlt
    have hk2 : 2 * i < 400 := by omega
    have hk2' : (((2 * i : Nat) : Int) < ((400 : Nat) : Int)) = True := eq_true (by omega)
    have hcap : capOf l (2 * i) = (l[i]).c := by
      unfold capOf
      rw [show 2 * i / 2 = i by omega, List.getElem?_eq_getElem hlt]
      simp only [show 2 * i % 2 = 0 by omega, if_true]
    have hr := p3.le hok (j := 2 * i) (by omega)
    have hc := cap_ok hok (j := 2 * i) (by omega)
    have hws : IntKind.wrap .i64 ((l[i]).c - left (2 * i)) = capOf l (2 * i) - left (2 * i) := by rw [wrap_i64 (by omega) (by omega), hcap]
    have wg := (hm6.get _ hw5.2.1).trans hw5.1
    have nb : (b = m6.next) = False := eq_false (by have := hw5.2.1; have := hm6.next; omega)
    have hmA : Mext m6 ((m6.new (.cells [.int .i64 0, .int .i64 0, .int .i64 0] 73 3)).set m6.next (.cells [.int .i64 (l[i]).f, .int .i64 (l[i]).t, .int .i64 (l[i]).c] 73 3)) := ((Mext.refl _).new _).set (Nat.le_refl _) _
    obtain ⟨v', m7, ha7, hacc7, ⟨nn, cc, rfl⟩, hn7, hk7⟩ := app1_acc2 (bytes := 8) (x := [.int .i64 (capOf l (2 * i) - left (2 * i))]) (hacc.mext hmA) (by have := hm6.next; simp only [next_set, Mem.next_new]; omega) (intCells_one _) rfl rfl (by rw [intCells_len]; unfold flowOf; rw [List.length_map, List.length_range]; omega) (by omega)
    have hm67 : Mext m5 m7 := ⟨by have := hm6.next; simp only [next_set, Mem.next_new] at hn7; omega, fun j hj => (hk7 j (by have := hm6.next; simp only [next_set, Mem.next_new]; omega) (hacc.off hj)).trans ((hm6.trans hmA).get j hj)⟩
    have z2 : zeros Try.prog 2 1 = [.int .i64 0] := by kernel_rfl
    simp only [ArcI.cells] at hcs
    simp (decide := true) only [f6, f7, f10, f31, f32, f33, hlt', hw1, hw2, hcs, zc73, nb, wg, wk_left, hk2, hk2', hws, z2, ha7, List.length_singleton, EV2, MVn, qv, qvK, List.set_cons_zero, List.set_cons_succ, List.toList_toArray, Int.reduceToNat, Nat.reduceAdd, Nat.reduceMul, Nat.one_mul, Bool.not_true, Bool.not_false, EV, step, List.map_cons, List.map_nil, Option.map_some, Option.map_none, if_true, if_false, reduceIte, List.getElem?_cons_zero, List.getElem?_cons_succ, Option.getD_some, List.nil_append, List.append_nil, List.cons_append, List.getElem?_nil, Option.getD_none, true_implies, false_implies, not_true_eq_false, not_false_eq_true, and_true, true_and, decide_true, decide_false, Int.natCast_nonneg, Int.toNat_natCast, Nat.mul_one, List.size_toArray, List.getElem?_toArray, List.length_cons, List.length_nil, Nat.zero_add, Nat.add_zero, List.drop_zero, List.take_succ_cons, List.take_zero, List.drop_succ_cons, List.all_cons, List.all_nil, Bool.and_true, Bool.and_self, and_self]
    refine hn _ _ _ (by omega) ⟨i + 1, _, hlt, rfl, hmm5.trans hm67, hm67, ?_, by simp [sem, f6], rfl, by simp [sem, f10], by simp [sem, f31], by simp [sem, f32], by simp [sem, Slot.v]⟩
    rw [flowOf_succ, ← intCells_snoc]; exact hacc7
  · have hlt' : ((i : Int) < l.length) = False := eq_false (by omega)
    have : i = l.length := by omega
    subst this
    simp (decide := true) only [f32, f33, hlt', EV2, MVn, qv, qvK, List.set_cons_zero, List.set_cons_succ, List.toList_toArray, Int.reduceToNat, Nat.reduceAdd, Nat.reduceMul, Nat.one_mul, Bool.not_true, Bool.not_false, EV, step, List.map_cons, List.map_nil, Option.map_some, Option.map_none, if_true, if_false, reduceIte, List.getElem?_cons_zero, List.getElem?_cons_succ, Option.getD_some, List.nil_append, List.append_nil, List.cons_append, List.getElem?_nil, Option.getD_none, true_implies, false_implies, not_true_eq_false, not_false_eq_true, and_true, true_and, decide_true, decide_false, Int.natCast_nonneg, Int.toNat_natCast, Nat.mul_one, List.size_toArray, List.getElem?_toArray, List.length_cons, List.length_nil, Nat.zero_add, Nat.add_zero, List.drop_zero, List.take_succ_cons, List.take_zero, List.drop_succ_cons, List.all_cons, List.all_nil, Bool.and_true, Bool.and_self, and_self]
    refine he _ _ _ ?_
    simp (decide := true) only [f6, f7, EV2, MVn, qv, qvK, List.set_cons_zero, List.set_cons_succ, List.toList_toArray, Int.reduceToNat, Nat.reduceAdd, Nat.reduceMul, Nat.one_mul, Bool.not_true, Bool.not_false, EV, step, List.map_cons, List.map_nil, Option.map_some, Option.map_none, if_true, if_false, reduceIte, List.getElem?_cons_zero, List.getElem?_cons_succ, Option.getD_some, List.nil_append, List.append_nil, List.cons_append, List.getElem?_nil, Option.getD_none, true_implies, false_implies, not_true_eq_false, not_false_eq_true, and_true, true_and, decide_true, decide_false, Int.natCast_nonneg, Int.toNat_natCast, Nat.mul_one, List.size_toArray, List.getElem?_toArray, List.length_cons, List.length_nil, Nat.zero_add, Nat.add_zero, List.drop_zero, List.take_succ_cons, List.take_zero, List.drop_succ_cons, List.all_cons, List.all_nil, Bool.and_true, Bool.and_self, and_self]
    exact hQ _ _ _ ⟨.inr rfl, [.int .i64 value, vf, .int .i64 0], by simp [X14, R14, resL, sem, f6, f7, Slot.v], value, left, lev, vf, rfl, hf, hacc.base hmm5.next, hm⟩

theorem LevOk.sub {N : Int} {l : List ArcI} {left : Nat → Int} {s : Nat} {lev lev' : Nat → Int} (hok : ∀ x ∈ l, ArcI.ok N x) (h : LevOk N l left s lev) (h' : LevOk N l left s lev') (hN : N ≤ 24) : ∀ p, p < 24 → 0 ≤ lev p → 0 ≤ lev' p := by
  have key : ∀ (k p : Nat), p < 24 → lev p = k → 0 ≤ lev' p := by
    intro k
    induction k with
    | zero => intro p hp h0; rw [h.zero p hp (by omega), h'.src]; omega
    | succ k ih =>
      intro p hp h0
      obtain ⟨u, j, g1, g2, g3, g4, g5, g6⟩ := h.pre p hp (by omega)
      have := h'.clo u g1 (ih u g1 (by omega)) j g4 g5
      rwa [g6] at this
  exact fun p hp h0 => key (lev p).toNat p hp (by omega)
theorem Cut_spec {Γ : YEnv} (hΓ : YMono Γ) (N : Int) (l : List ArcI) (v : Value) (s t : Nat) (m : Mem) (h : Arcs m v l) (hnet : NetOk N l) (hs : (s : Int) < N) (ht : (t : Int) < N) (hst : s ≠ t) :
    ACalls Try.prog Γ 15 [.agg #[.int .i64 N, v], .int .i64 s, .int .i64 t] m fun r m' => ∃ (value : Int) (left lev : Nat → Int) (vc : Value), r = .tuple #[vc, .int .i64 value, .int .i64 0] ∧ Found N l s t value left lev ∧ Acc m m' vc (intCells (natI (reachL lev 24))) 3 1 ∧ Mext m m' := by
  refine acallsW hΓ fok15 (by simp [X15]) fun Q hQ => ?_
  obtain ⟨h2, h24, h200, hok⟩ := hnet
  have hnet : NetOk N l := ⟨h2, h24, h200, hok⟩
  obtain ⟨ao, c, rfl⟩ := h.len
  have hm1 : Mext m (m.new (.cells [.int .i64 N, .slice ao l.length c] 32 2)) := (Mext.refl m).new _
  simp (decide := true) only [S15_0, S15_1, S15_2, S15_3, S15_4, S15_5, S15_6, S15_7, S15_8, S15_9, S15_10, S15_11, S15_12, S15_13, S15_14, S15_15, S15_16, S15_17, S15_18, S15_19, S15_20, S15_21, S15, X15, G15, EV2, MVn, qv, qvK, List.set_cons_zero, List.set_cons_succ, List.toList_toArray, Int.reduceToNat, Nat.reduceAdd, Nat.reduceMul, Nat.one_mul, Bool.not_true, Bool.not_false, EV, step, List.map_cons, List.map_nil, Option.map_some, Option.map_none, if_true, if_false, reduceIte, List.getElem?_cons_zero, List.getElem?_cons_succ, Option.getD_some, List.nil_append, List.append_nil, List.cons_append, List.getElem?_nil, Option.getD_none, true_implies, false_implies, not_true_eq_false, not_false_eq_true, and_true, true_and, decide_true, decide_false, Int.natCast_nonneg, Int.toNat_natCast, Nat.mul_one, List.size_toArray, List.getElem?_toArray, List.length_cons, List.length_nil, Nat.zero_add, Nat.add_zero, List.drop_zero, List.take_succ_cons, List.take_zero, List.drop_succ_cons, List.all_cons, List.all_nil, Bool.and_true, Bool.and_self, and_self]
  refine (check_spec hΓ N l _ _ (h.mext hm1) (by omega)).mono ?_
  rintro r m2 ⟨rfl, hm2⟩
  have g2 : m2.get m.next = some (.cells [.int .i64 N, .slice ao l.length c] 32 2) := (hm2.get _ (by rw [Mem.next_new]; omega)).trans (Mem.get_new _ _)
  simp (decide := true) only [eq_true hnet, g2, ne_eq, EV2, MVn, qv, qvK, List.set_cons_zero, List.set_cons_succ, List.toList_toArray, Int.reduceToNat, Nat.reduceAdd, Nat.reduceMul, Nat.one_mul, Bool.not_true, Bool.not_false, EV, step, List.map_cons, List.map_nil, Option.map_some, Option.map_none, if_true, if_false, reduceIte, List.getElem?_cons_zero, List.getElem?_cons_succ, Option.getD_some, List.nil_append, List.append_nil, List.cons_append, List.getElem?_nil, Option.getD_none, true_implies, false_implies, not_true_eq_false, not_false_eq_true, and_true, true_and, decide_true, decide_false, Int.natCast_nonneg, Int.toNat_natCast, Nat.mul_one, List.size_toArray, List.getElem?_toArray, List.length_cons, List.length_nil, Nat.zero_add, Nat.add_zero, List.drop_zero, List.take_succ_cons, List.take_zero, List.drop_succ_cons, List.all_cons, List.all_nil, Bool.and_true, Bool.and_self, and_self]
  refine (areEnds_spec hΓ N s t m2).mono ?_
  rintro r m3 ⟨rfl, rfl⟩
  have hends : EndsOk N s t := ⟨by omega, by omega, by omega⟩
  have hlt2 := hm2.next
  rw [Mem.next_new] at hlt2
  simp (decide := true) only [eq_true hends, g2, ne_eq, EV2, MVn, qv, qvK, List.set_cons_zero, List.set_cons_succ, List.toList_toArray, Int.reduceToNat, Nat.reduceAdd, Nat.reduceMul, Nat.one_mul, Bool.not_true, Bool.not_false, EV, step, List.map_cons, List.map_nil, Option.map_some, Option.map_none, if_true, if_false, reduceIte, List.getElem?_cons_zero, List.getElem?_cons_succ, Option.getD_some, List.nil_append, List.append_nil, List.cons_append, List.getElem?_nil, Option.getD_none, true_implies, false_implies, not_true_eq_false, not_false_eq_true, and_true, true_and, decide_true, decide_false, Int.natCast_nonneg, Int.toNat_natCast, Nat.mul_one, List.size_toArray, List.getElem?_toArray, List.length_cons, List.length_nil, Nat.zero_add, Nat.add_zero, List.drop_zero, List.take_succ_cons, List.take_zero, List.drop_succ_cons, List.all_cons, List.all_nil, Bool.and_true, Bool.and_self, and_self]
  refine (newWork_spec hΓ N ⟨m.next, 0, none⟩ l _ 32 2 m3 (h.mext (hm1.trans hm2)) g2 rfl (by show m.next < m3.next; omega) h2 h24 hok h200).mono ?_
  rintro r m4 ⟨b, rfl, hb, hw, hm4⟩
  refine (push_spec hΓ b s t N l (capOf l) m4 h24 hok h200 hs ht hst hw (ResOk.start hok)).mono ?_
  rintro r m5 ⟨value, left, lev, rfl, p1, p2, hm5, hw5, p3, p4, p5, p6⟩
  have hmm5 : Mext m m5 := ⟨by have := hm4.next; have := hm5.next; omega, fun i hi => (hm5.get i (by have := hm4.next; omega) (by omega)).trans (((hm1.trans hm2).trans hm4).get i hi)⟩
  refine (reached_spec hΓ b N l left s m5 hw5 h24 hs hok h200).mono ?_
  rintro r m6 ⟨lev', hacc, hlev', hm6⟩
  obtain ⟨w1, w2, w3⟩ := hacc.ok
  refine hQ _ _ _ ⟨.inr rfl, [r, .int .i64 value, .int .i64 0], by simp [X15, R15, resL, sem, Slot.v], value, left, lev', r, rfl, ⟨p1, p2, p3, p4, hlev', ?_⟩, hacc.base hmm5.next, hmm5.trans hm6⟩
  have ht24 : t < 24 := by omega
  rcases hlev'.all t ht24 with h1 | h1
  · omega
  · have := hlev'.sub hok p5 h24 t ht24 h1.1; omega
end Go.Proofs.Ytnhodgonmceojaa.Sh
