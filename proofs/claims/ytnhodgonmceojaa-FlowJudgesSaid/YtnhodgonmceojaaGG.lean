/- The plain law: the greatest flow is a flow, and of the least cut's capacity; what can be reached is what the least cuts have in common. -/
import Derived.Test.YtnhodgonmceojaaGD
set_option linter.unusedVariables false
set_option linter.unusedSimpArgs false
namespace Go.Proofs.Ytnhodgonmceojaa.Sh
open Go.RowKit

theorem flowOf_len (l : List ArcI) (left : Nat → Int) (n : Nat) : (flowOf l left n).length = n := by unfold flowOf; simp
theorem flowOf_get (l : List ArcI) (left : Nat → Int) {n k : Nat} (h : k < n) : (flowOf l left n)[k]? = some (capOf l (2 * k) - left (2 * k)) := by unfold flowOf; simp [h]
theorem at_even {l : List ArcI} {k : Nat} {a : ArcI} (h : l[k]? = some a) : tailOf l (2 * k) = a.f ∧ toOf l (2 * k) = a.t ∧ capOf l (2 * k) = a.c := by
  unfold tailOf toOf capOf
  rw [show 2 * k / 2 = k by omega, h]
  simp only [show 2 * k % 2 = 0 by omega, if_true]; exact ⟨trivial, trivial, trivial⟩
theorem at_odd {l : List ArcI} {k : Nat} {a : ArcI} (h : l[k]? = some a) : tailOf l (2 * k + 1) = a.t ∧ toOf l (2 * k + 1) = a.f ∧ capOf l (2 * k + 1) = 0 := by
  unfold tailOf toOf capOf
  rw [show (2 * k + 1) / 2 = k by omega, h]
  simp only [show ¬ (2 * k + 1) % 2 = 0 by omega, if_false]; exact ⟨trivial, trivial, trivial⟩
theorem res_pair {l : List ArcI} {left : Nat → Int} (h : ResOk l left) {k : Nat} {a : ArcI} (ha : l[k]? = some a) : left (2 * k) + left (2 * k + 1) = a.c ∧ 0 ≤ left (2 * k) ∧ 0 ≤ left (2 * k + 1) := by
  have hk := (List.getElem?_eq_some_iff.1 ha).1
  have hs := h.sum (2 * k) (by omega)
  have h1 := h.pos (2 * k) (by omega)
  have h2 := h.pos (2 * k + 1) (by omega)
  have e : opp (2 * k) = 2 * k + 1 := by unfold opp; rw [if_pos (by omega)]
  rw [e, (at_even ha).2.2, (at_odd ha).2.2] at hs
  omega
theorem flow_inR {l : List ArcI} {left : Nat → Int} (h : ResOk l left) : InR l (flowOf l left l.length) l.length := by
  intro k hk a x ha hx
  rw [flowOf_get _ _ hk] at hx
  cases hx
  have := res_pair h ha
  rw [(at_even ha).2.2]; omega
theorem val_at {l : List ArcI} {left : Nat → Int} (h : ResOk l left) (p : Nat) : ∀ n, n ≤ l.length → valN l (flowOf l left l.length) p n = sumTo (2 * n) (fun j => (if tailOf l j = p then capOf l j else 0) - (if tailOf l j = p then left j else 0))
  | 0, _ => rfl
  | n + 1, hn => by
    have ha : l[n]? = some l[n] := List.getElem?_eq_getElem (by omega)
    have hx := flowOf_get l left (n := l.length) (k := n) (by omega)
    rw [show 2 * (n + 1) = 2 * n + 1 + 1 by omega]
    simp only [sumTo, valN, ha, hx]
    rw [val_at h p n (by omega)]
    have h1 := at_even ha
    have h2 := at_odd ha
    have h3 := res_pair h ha
    rw [h1.1, h1.2.2, h2.1, h2.2.2]
    have hv : val1 l[n] (l[n].c - left (2 * n)) p = (if l[n].f = (p : Int) then l[n].c - left (2 * n) else 0) - (if l[n].t = (p : Int) then l[n].c - left (2 * n) else 0) := rfl
    generalize val1 l[n] (l[n].c - left (2 * n)) p = w at hv ⊢
    generalize sumTo (2 * n) _ = u
    by_cases e1 : l[n].f = (p : Int) <;> by_cases e2 : l[n].t = (p : Int) <;> simp only [e1, e2, if_true, if_false] at hv ⊢ <;> omega
theorem val_found {N : Int} {l : List ArcI} {s t : Nat} {value : Int} {left lev : Nat → Int} (h : Found N l s t value left lev) (p : Nat) : valN l (flowOf l left l.length) p l.length = (if s = p then value else 0) - (if t = p then value else 0) := by
  rw [val_at h.ok p _ (Nat.le_refl _), sumTo_sub]
  have := h.sum p
  unfold atP at this
  omega
theorem found_flow {N : Nat} {l : List ArcI} {s t : Nat} {value : Int} {left lev : Nat → Int} (h : Found N l s t value left lev) (hst : s ≠ t) : FlowP N l s t (flowOf l left l.length) ∧ valN l (flowOf l left l.length) s l.length = value := by
  refine ⟨⟨flowOf_len _ _ _, flow_inR h.ok, fun p hp h1 h2 => ?_⟩, ?_⟩
  · rw [val_found h, if_neg (Ne.symm h1), if_neg (Ne.symm h2)]; rfl
  · rw [val_found h, if_pos rfl, if_neg (Ne.symm hst)]; omega

/-! ### Flows across sets -/
theorem sumTo_pick (X : Nat → Bool) (f : Nat) (x : Int) : ∀ n, sumTo n (fun p => if X p then (if (f : Int) = (p : Int) then x else 0) else 0) = if f < n then (if X f then x else 0) else 0
  | 0 => by simp [sumTo]
  | n + 1 => by
    simp only [sumTo]
    rw [sumTo_pick X f x n]
    by_cases h : f = n
    · subst h; simp
    · have h2 : ¬ (f : Int) = (n : Int) := by omega
      rw [if_neg h2]
      by_cases h3 : f < n
      · simp only [h3, show f < n + 1 by omega, if_true]; split <;> omega
      · simp only [h3, show ¬ f < n + 1 by omega, if_false]; split <;> rfl
def crossN (X : Nat → Bool) (l : List ArcI) (F : List Int) : Nat → Int
  | 0 => 0
  | n + 1 => crossN X l F n + (match l[n]?, F[n]? with
    | some a, some x => (if X a.f.toNat then x else 0) - (if X a.t.toNat then x else 0)
    | _, _ => 0)
theorem cross_val {N : Int} {l : List ArcI} (hok : ∀ a ∈ l, ArcI.ok N a) (hN : N ≤ 24) (X : Nat → Bool) (F : List Int) : ∀ n, sumTo 24 (fun p => if X p then valN l F p n else 0) = crossN X l F n
  | 0 => by
    have : (fun p => if X p then valN l F (p : Nat) 0 else 0) = fun _ => (0 : Int) := by funext p; simp [valN]
    rw [this, sumTo_zero]; rfl
  | n + 1 => by
    have ih := cross_val hok hN X F n
    have triv : (∀ p : Nat, valN l F p (n + 1) = valN l F p n) → crossN X l F (n + 1) = crossN X l F n → sumTo 24 (fun p => if X p then valN l F p (n + 1) else 0) = crossN X l F (n + 1) := fun h1 h2 => by
      rw [h2, ← ih]
      exact sumTo_congr _ fun j hj => by rw [h1]
    cases ha : l[n]? with
    | none => exact triv (fun p => by simp [valN, ha]) (by simp [crossN, ha])
    | some a =>
      cases hx : F[n]? with
      | none => exact triv (fun p => by simp [valN, ha, hx]) (by simp [crossN, ha, hx])
      | some x =>
        obtain ⟨f, t, hf, ht, h1, h2, _⟩ := ok_nat (hok a (List.mem_of_getElem? ha))
        have e : (fun (p : Nat) => if X p then valN l F p (n + 1) else 0) = fun (p : Nat) => (if X p then valN l F p n else 0) + ((if X p then (if (f : Int) = (p : Int) then x else 0) else 0) - (if X p then (if (t : Int) = (p : Int) then x else 0) else 0)) := by
          funext p
          have hv : valN l F p (n + 1) = valN l F p n + ((if (f : Int) = (p : Int) then x else 0) - (if (t : Int) = (p : Int) then x else 0)) := by simp only [valN, ha, hx, val1]; rw [hf, ht]
          rw [hv]
          cases X p <;> simp
        have e2 : crossN X l F (n + 1) = crossN X l F n + ((if X f then x else 0) - (if X t then x else 0)) := by simp only [crossN, ha, hx]; rw [hf, ht, Int.toNat_natCast, Int.toNat_natCast]
        rw [e, e2, sumTo_add, sumTo_sub, sumTo_pick, sumTo_pick, ih, if_pos (show f < 24 by omega), if_pos (show t < 24 by omega)]
theorem sumTo_at (X : Nat → Bool) (g : Nat → Int) (s : Nat) (hs : s < 24) (hX : X s = true) (hg : ∀ p, p < 24 → X p = true → p ≠ s → g p = 0) : sumTo 24 (fun p => if X p then g p else 0) = g s := by
  have e : sumTo 24 (fun p => if X p then g p else 0) = sumTo 24 (upd (fun _ => 0) s (g s)) := by
    refine sumTo_congr _ fun j hj => ?_
    rw [upd_at]
    by_cases h : j = s
    · subst h; rw [if_pos hX, if_pos rfl]
    · rw [if_neg h]
      split
      · rename_i hx; exact hg j hj hx h
      · rfl
  rw [e, sumTo_one _ _ _ _ hs, sumTo_zero]; omega
/-- A flow's value, across any cut. -/
theorem value_cross {N : Nat} {l : List ArcI} (hok : ∀ a ∈ l, ArcI.ok N a) (hN : N ≤ 24) {s t : Nat} {F : List Int} (h : FlowP N l s t F) (X : Nat → Bool) (hs : s < 24) (hXs : X s = true) (hXt : X t = false) : valN l F s l.length = crossN X l F l.length := by
  rw [← cross_val hok (by omega) X F l.length, sumTo_at X (fun p => valN l F p l.length) s hs hXs]
  intro p hp hx hps
  by_cases hpN : p < N
  · exact h.2.2 p hpN hps (by rintro rfl; rw [hXt] at hx; cases hx)
  · exact valN_out hok F (by omega) _
def capX (X : Nat → Bool) : List ArcI → Int
  | [] => 0
  | a :: r => (if X a.f.toNat && !X a.t.toNat then a.c else 0) + capX X r
theorem capX_append (X : Nat → Bool) : ∀ l r, capX X (l ++ r) = capX X l + capX X r
  | [], r => by simp [capX]
  | a :: l, r => by simp only [List.cons_append, capX, capX_append X l r]; omega
theorem cap_bits (x : Nat) : ∀ l, capX x.testBit l = bitSum x l
  | [] => rfl
  | a :: r => by
    show _ + capX x.testBit r = _ + bitSum x r
    rw [cap_bits x r]; rfl
/-- Across a cut goes at most its capacity; just that if what goes out is full and what comes in is empty, and only then. -/
theorem cross_le (X : Nat → Bool) {l : List ArcI} {F : List Int} (hF : F.length = l.length) (hin : InR l F l.length) : ∀ n, n ≤ l.length → crossN X l F n ≤ capX X (l.take n) ∧
    ((∀ k, k < n → ∀ a x, l[k]? = some a → F[k]? = some x → (X a.f.toNat = true → X a.t.toNat = false → x = a.c) ∧ (X a.f.toNat = false → X a.t.toNat = true → x = 0)) ↔ crossN X l F n = capX X (l.take n))
  | 0, _ => by simp [crossN, capX]
  | n + 1, hn => by
    obtain ⟨ih1, ih2⟩ := cross_le X hF hin n (by omega)
    have ha : l[n]? = some l[n] := List.getElem?_eq_getElem (by omega)
    have hx : F[n]? = some (F[n]'(by omega)) := List.getElem?_eq_getElem (by omega)
    have hr := hin n (by omega) _ _ ha hx
    have htake : l.take (n + 1) = l.take n ++ [l[n]] := (List.take_append_getElem (by omega)).symm
    generalize l[n] = a at *
    generalize F[n]'(by omega) = x at *
    have e : capX X (l.take (n + 1)) = capX X (l.take n) + (if X a.f.toNat && !X a.t.toNat then a.c else 0) := by rw [htake, capX_append]; simp [capX]
    have e2 : crossN X l F (n + 1) = crossN X l F n + ((if X a.f.toNat then x else 0) - (if X a.t.toNat then x else 0)) := by simp only [crossN, ha, hx]
    have key : (∀ k, k < n + 1 → ∀ a x, l[k]? = some a → F[k]? = some x → (X a.f.toNat = true → X a.t.toNat = false → x = a.c) ∧ (X a.f.toNat = false → X a.t.toNat = true → x = 0)) ↔
        (crossN X l F n = capX X (l.take n)) ∧ ((X a.f.toNat = true → X a.t.toNat = false → x = a.c) ∧ (X a.f.toNat = false → X a.t.toNat = true → x = 0)) := by
      rw [← ih2]
      constructor
      · intro h; exact ⟨fun k hk => h k (by omega), h n (by omega) a x ha hx⟩
      · rintro ⟨h1, h2⟩ k hk a' x' ha' hx'
        by_cases e : k = n
        · subst e; rw [ha] at ha'; rw [hx] at hx'; cases ha'; cases hx'; exact h2
        · exact h1 k (by omega) a' x' ha' hx'
    rw [key, e, e2]
    cases h1 : X a.f.toNat <;> cases h2 : X a.t.toNat <;> simp [h1, h2] <;> omega

/-! ### The first cut -/
theorem lev_cut {N : Nat} {l : List ArcI} (hok : ∀ a ∈ l, ArcI.ok N a) (hN : N ≤ 24) {s t : Nat} {value : Int} {left lev : Nat → Int} (h : Found N l s t value left lev) : ∀ k, k < l.length → ∀ a x, l[k]? = some a → (flowOf l left l.length)[k]? = some x →
    (decide (0 ≤ lev a.f.toNat) = true → decide (0 ≤ lev a.t.toNat) = false → x = a.c) ∧ (decide (0 ≤ lev a.f.toNat) = false → decide (0 ≤ lev a.t.toNat) = true → x = 0) := by
  intro k hk a x ha hx
  rw [flowOf_get _ _ hk] at hx
  cases hx
  have h1 := at_even ha
  have h2 := at_odd ha
  have h3 := res_pair h.ok ha
  obtain ⟨f, t', hf, ht, hfN, htN, _⟩ := ok_nat (hok a (List.mem_of_getElem? ha))
  rw [h1.2.2, hf, ht]
  simp only [Int.toNat_natCast, decide_eq_true_eq, decide_eq_false_iff_not]
  have m1 : 2 * k ∈ adjN l f := adjN_mem.2 ⟨by omega, by rw [h1.1, hf]⟩
  have m2 : 2 * k + 1 ∈ adjN l t' := adjN_mem.2 ⟨by omega, by rw [h2.1, ht]⟩
  have n1 : toN l (2 * k) = t' := by unfold toN; rw [h1.2.1, ht]; rfl
  have n2 : toN l (2 * k + 1) = f := by unfold toN; rw [h2.2.1, hf]; rfl
  constructor
  · intro a1 a2
    by_cases hz : 0 < left (2 * k)
    · have := h.levOk.clo f (by omega) a1 _ m1 hz
      rw [n1] at this; omega
    · omega
  · intro a1 a2
    by_cases hz : 0 < left (2 * k + 1)
    · have := h.levOk.clo t' (by omega) a2 _ m2 hz
      rw [n2] at this; omega
    · omega
/-- What can be reached lies in every cut across which nothing is left. -/
theorem lev_least {N : Nat} {l : List ArcI} (hok : ∀ a ∈ l, ArcI.ok N a) (hN : N ≤ 24) {s t : Nat} {value : Int} {left lev : Nat → Int} (h : Found N l s t value left lev) (X : Nat → Bool) (hXs : X s = true)
    (hX : ∀ k, k < l.length → ∀ a x, l[k]? = some a → (flowOf l left l.length)[k]? = some x → (X a.f.toNat = true → X a.t.toNat = false → x = a.c) ∧ (X a.f.toNat = false → X a.t.toNat = true → x = 0)) :
    ∀ p, p < 24 → 0 ≤ lev p → X p = true := by
  have key : ∀ (k p : Nat), p < 24 → lev p = k → X p = true := by
    intro k
    induction k with
    | zero => intro p hp h0; rw [h.levOk.zero p hp (by omega)]; exact hXs
    | succ k ih =>
      intro p hp h0
      obtain ⟨u, j, g1, g2, g3, g4, g5, g6⟩ := h.levOk.pre p hp (by omega)
      have hu := ih u g1 (by omega)
      obtain ⟨hj, htl⟩ := adjN_mem.1 g4
      have hkl : j / 2 < l.length := by omega
      have ha : l[j / 2]? = some l[j / 2] := List.getElem?_eq_getElem hkl
      obtain ⟨f, t', hf, ht, hfN, htN, _⟩ := ok_nat (hok _ (List.getElem_mem hkl))
      have h1 := at_even ha
      have h2 := at_odd ha
      have h3 := res_pair h.ok ha
      have hx := hX _ hkl _ _ ha (flowOf_get l left hkl)
      rw [h1.2.2, hf, ht] at hx
      simp only [Int.toNat_natCast] at hx
      cases hXp : X p with
      | true => rfl
      | false =>
        exfalso
        by_cases he : j % 2 = 0
        · have ej : 2 * (j / 2) = j := by omega
          rw [ej] at h1 h3 hx
          rw [h1.1, hf] at htl
          have e1 : f = u := by omega
          have e2 : t' = p := by rw [← g6]; unfold toN; rw [h1.2.1, ht]; rfl
          subst e1; subst e2
          have := hx.1 hu hXp
          omega
        · have ej : 2 * (j / 2) + 1 = j := by omega
          rw [ej] at h2 h3
          rw [h2.1, ht] at htl
          have e1 : t' = u := by omega
          have e2 : f = p := by rw [← g6]; unfold toN; rw [h2.2.1, hf]; rfl
          subst e1; subst e2
          have := hx.2 hXp hu
          omega
  exact fun p hp h0 => key (lev p).toNat p hp (by omega)

/-! ### All cuts tried -/
structure LI (l : List ArcI) (s t n : Nat) (st : Int × Nat) : Prop where
  low : ∀ x, x < n → isCut s t x = true → 0 ≤ st.1 ∧ st.1 ≤ bitSum x l
  some : ∀ x, x < n → isCut s t x = true → ∃ y, y < n ∧ isCut s t y = true ∧ bitSum y l = st.1
  none : (∀ x, x < n → isCut s t x = false) → st.1 < 0
  bits : ∀ i, (∃ x, x < n ∧ isCut s t x = true) → (st.2.testBit i = true ↔ ∀ x, x < n → isCut s t x = true → bitSum x l = st.1 → x.testBit i = true)
theorem least_LI {l : List ArcI} (hc : ∀ a ∈ l, 0 ≤ a.c ∧ a.c ≤ 1000000000) (s t : Nat) : ∀ n, LI l s t n (leastTo l s t n)
  | 0 => ⟨fun x h => by omega, fun x h => by omega, fun _ => by simp [leastTo], fun i ⟨x, h, _⟩ => by omega⟩
  | n + 1 => by
    have ih := least_LI hc s t n
    simp only [leastTo]
    generalize leastTo l s t n = st at ih
    unfold lstep
    have hb := (bitSum_bound n l hc).1
    cases hcut : isCut s t n with
    | false =>
      simp only [Bool.false_eq_true, if_false]
      have hlt : ∀ x, x < n + 1 → isCut s t x = true → x < n := fun x hx h => by
        by_cases e : x = n
        · subst e; rw [hcut] at h; cases h
        · omega
      refine ⟨fun x hx h => ih.low x (hlt x hx h) h, fun x hx h => ?_, fun h => ih.none fun x hx => h x (by omega), fun i ⟨x, hx, h⟩ => ?_⟩
      · obtain ⟨y, h1, h2, h3⟩ := ih.some x (hlt x hx h) h
        exact ⟨y, by omega, h2, h3⟩
      · rw [ih.bits i ⟨x, hlt x hx h, h⟩]
        exact ⟨fun g y hy h1 h2 => g y (hlt y hy h1) h1 h2, fun g y hy h1 h2 => g y (by omega) h1 h2⟩
    | true =>
      simp only [if_true]
      by_cases h1 : st.1 < 0 ∨ bitSum n l < st.1
      · rw [if_pos h1]
        have hmin : ∀ x, x < n → isCut s t x = true → bitSum n l < bitSum x l := fun x hx h => by have := ih.low x hx h; omega
        refine ⟨fun x hx h => ⟨hb, ?_⟩, fun x hx h => ⟨n, by omega, hcut, rfl⟩, fun h => (by have := h n (by omega); rw [hcut] at this; cases this), fun i _ => ?_⟩
        · by_cases e : x = n
          · subst e; exact Int.le_refl _
          · exact Int.le_of_lt (hmin x (by omega) h)
        · constructor
          · intro g y hy hyc hyb
            by_cases e : y = n
            · subst e; exact g
            · have := hmin y (by omega) hyc; omega
          · intro g; exact g n (by omega) hcut rfl
      · rw [if_neg h1]
        have hex : ∃ x, x < n ∧ isCut s t x = true := by
          refine Classical.byContradiction fun hno => ?_
          have := ih.none fun x hx => by
            cases h : isCut s t x with
            | false => rfl
            | true => exact absurd ⟨x, hx, h⟩ hno
          omega
        obtain ⟨x0, hx0, hc0⟩ := hex
        obtain ⟨y0, g1, g2, g3⟩ := ih.some x0 hx0 hc0
        by_cases h2 : bitSum n l = st.1
        · rw [if_pos h2]
          refine ⟨fun x hx h => ?_, fun x hx h => ⟨n, by omega, hcut, h2⟩, fun h => (by have := h n (by omega); rw [hcut] at this; cases this), fun i _ => ?_⟩
          · by_cases e : x = n
            · subst e; simp only; omega
            · exact ih.low x (by omega) h
          · rw [Nat.testBit_and, Bool.and_eq_true, ih.bits i ⟨x0, hx0, hc0⟩]
            constructor
            · rintro ⟨a1, a2⟩ y hy hyc hyb
              by_cases e : y = n
              · subst e; exact a2
              · exact a1 y (by omega) hyc hyb
            · intro g
              exact ⟨fun y hy hyc hyb => g y (by omega) hyc hyb, g n (by omega) hcut h2⟩
        · rw [if_neg h2]
          refine ⟨fun x hx h => ?_, fun x hx h => ⟨y0, by omega, g2, g3⟩, fun h => (by have := h n (by omega); rw [hcut] at this; cases this), fun i _ => ?_⟩
          · by_cases e : x = n
            · subst e; have := ih.low x0 hx0 hc0; omega
            · exact ih.low x (by omega) h
          · rw [ih.bits i ⟨x0, hx0, hc0⟩]
            constructor
            · intro g y hy hyc hyb
              by_cases e : y = n
              · subst e; omega
              · exact g y (by omega) hyc hyb
            · intro g y hy hyc hyb; exact g y (by omega) hyc hyb
theorem bits_of (P : Nat → Bool) : ∀ n, ∃ x, x < 2 ^ n ∧ ∀ i, i < n → x.testBit i = P i
  | 0 => ⟨0, by simp, fun i h => by omega⟩
  | n + 1 => by
    obtain ⟨x, h1, h2⟩ := bits_of P n
    cases hp : P n with
    | false =>
      refine ⟨x, by rw [Nat.pow_succ]; omega, fun i hi => ?_⟩
      by_cases e : i = n
      · subst e; rw [hp]; exact Nat.testBit_lt_two_pow h1
      · exact h2 i (by omega)
    | true =>
      refine ⟨2 ^ n + x, by rw [Nat.pow_succ]; omega, fun i hi => ?_⟩
      by_cases e : i = n
      · subst e; rw [hp, Nat.testBit_two_pow_add_eq, Nat.testBit_lt_two_pow h1]; rfl
      · rw [Nat.testBit_two_pow_add_gt (by omega)]; exact h2 i (by omega)
theorem reachL_cut {N : Nat} {l : List ArcI} {left : Nat → Int} {s : Nat} {lev : Nat → Int} (h : LevOk N l left s lev) : ∀ k, N + k ≤ 24 → reachL lev (N + k) = reachL lev N
  | 0, _ => rfl
  | k + 1, hk => by
    rw [show N + (k + 1) = (N + k) + 1 by omega, reachL_succ, if_neg, reachL_cut h k (by omega)]
    rcases h.all (N + k) (by omega) with h1 | h1 <;> omega

theorem most_law {N : Nat} {l : List ArcI} (hok : ∀ a ∈ l, ArcI.ok N a) (hN : N ≤ 24) {s t : Nat} (hs : s < N) (ht : t < N) (hst : s ≠ t) {value : Int} {left lev : Nat → Int} (h : Found N l s t value left lev) :
    (leastTo l s t (2 ^ N)).1 = value ∧ members ((leastTo l s t (2 ^ N)).2 : Int) N = natI (reachL lev 24) := by
  have hcc : ∀ a ∈ l, 0 ≤ a.c ∧ a.c ≤ 1000000000 := fun a ha => ⟨(hok a ha).2.2.2.1, (hok a ha).2.2.2.2⟩
  obtain ⟨hflow, hval⟩ := found_flow h hst
  have hLI := least_LI (l := l) hcc s t (2 ^ N)
  obtain ⟨xr, hxr, hbr⟩ := bits_of (fun p => decide (0 ≤ lev p)) N
  have hXarc : ∀ (x : Nat) (a : ArcI), a ∈ l → True := fun _ _ _ => trivial
  have congr : ∀ (X Y : Nat → Bool), (∀ p, p < N → X p = Y p) → capX X l = capX Y l ∧ crossN X l (flowOf l left l.length) l.length = crossN Y l (flowOf l left l.length) l.length := by
    intro X Y hXY
    have ha : ∀ a ∈ l, X a.f.toNat = Y a.f.toNat ∧ X a.t.toNat = Y a.t.toNat := fun a ha => by
      obtain ⟨f, t', hf, ht', h1, h2, _⟩ := ok_nat (hok a ha)
      rw [hf, ht', Int.toNat_natCast, Int.toNat_natCast]
      exact ⟨hXY f (by omega), hXY t' (by omega)⟩
    constructor
    · have : ∀ l' : List ArcI, (∀ a ∈ l', a ∈ l) → capX X l' = capX Y l' := by
        intro l'
        induction l' with
        | nil => intro _; rfl
        | cons a r ih => intro hh; simp only [capX]; rw [ih fun b hb => hh b (by simp [hb]), (ha a (hh a (by simp))).1, (ha a (hh a (by simp))).2]
      exact this l fun a h => h
    · have : ∀ n, crossN X l (flowOf l left l.length) n = crossN Y l (flowOf l left l.length) n := by
        intro n
        induction n with
        | zero => rfl
        | succ n ih =>
          simp only [crossN]; rw [ih]
          split
          · rename_i a x h1 h2
            rw [(ha a (List.mem_of_getElem? h1)).1, (ha a (List.mem_of_getElem? h1)).2]
          · rfl
      exact this _
  -- the cut of what can be reached
  have hrs : xr.testBit s = true := by rw [hbr s hs]; simp; rw [h.levOk.src]; omega
  have hrt : xr.testBit t = false := by rw [hbr t ht]; simp; exact h.cut
  have hrcut : isCut s t xr = true := by simp [isCut, hrs, hrt]
  have hrsum : bitSum xr l = value := by
    rw [← cap_bits]
    have e := congr xr.testBit (fun p => decide (0 ≤ lev p)) hbr
    have h1 := (cross_le (fun p => decide (0 ≤ lev p)) (flowOf_len _ _ _) hflow.2.1 l.length (Nat.le_refl _)).2.1 (lev_cut hok hN h)
    rw [List.take_length] at h1
    rw [e.1, ← h1, ← value_cross hok hN hflow (fun p => decide (0 ≤ lev p)) (by omega) (by simp; rw [h.levOk.src]; omega) (by simp; exact h.cut), hval]
  -- every other
  have hle : ∀ x, isCut s t x = true → value ≤ bitSum x l ∧ (bitSum x l = value → ∀ p, p < 24 → 0 ≤ lev p → x.testBit p = true) := by
    intro x hx
    simp only [isCut, Bool.and_eq_true, Bool.not_eq_true'] at hx
    have h1 := cross_le x.testBit (flowOf_len l left l.length) hflow.2.1 l.length (Nat.le_refl _)
    rw [List.take_length] at h1
    have h2 := value_cross hok hN hflow x.testBit (by omega) hx.1 hx.2
    rw [hval] at h2
    rw [← cap_bits]
    exact ⟨by rw [h2]; exact h1.1, fun he => lev_least hok hN h x.testBit hx.1 (h1.2.2 (by rw [← h2, he]))⟩
  have hmin : (leastTo l s t (2 ^ N)).1 = value := by
    have g1 := hLI.low xr hxr hrcut
    obtain ⟨y, g2, g3, g4⟩ := hLI.some xr hxr hrcut
    have g5 := (hle y g3).1
    omega
  refine ⟨hmin, ?_⟩
  have hbit : ∀ p, p < N → ((leastTo l s t (2 ^ N)).2.testBit p = decide (0 ≤ lev p)) := by
    intro p hp
    have hb := hLI.bits p ⟨xr, hxr, hrcut⟩
    rw [hmin] at hb
    by_cases h0 : 0 ≤ lev p
    · rw [decide_eq_true h0]
      exact hb.2 fun x hx hc he => (hle x hc).2 he p (by omega) h0
    · rw [decide_eq_false h0]
      cases hh : (leastTo l s t (2 ^ N)).2.testBit p with
      | false => rfl
      | true =>
        have := hb.1 hh xr hxr hrcut hrsum
        rw [hbr p hp] at this
        simp at this; omega
  have hr24 : reachL lev 24 = reachL lev N := by
    have := reachL_cut h.levOk (24 - N) (by omega)
    rwa [show N + (24 - N) = 24 by omega] at this
  rw [hr24]
  unfold members natI reachL
  congr 1
  refine List.filter_congr fun p hp => ?_
  rw [mem1_nat, hbit p (List.mem_range.1 hp)]
theorem JudgeP.yes {N : Nat} {l : List ArcI} {s t : Nat} {F : List Int} {r : Value} (h : JudgeP N l s t F r) (hp : FlowP N l s t F) : r = .tuple #[.int .i64 (valN l F s l.length), .bool true] := by
  rcases h with ⟨_, h⟩ | ⟨hn, _⟩
  · exact h
  · exact absurd hp hn
end Go.Proofs.Ytnhodgonmceojaa.Sh
