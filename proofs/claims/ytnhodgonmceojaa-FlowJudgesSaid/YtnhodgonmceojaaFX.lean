/- Contracts of flow: levels. Contracts of flow: levels, the walk. What is left of capacities, plainly: sums at places, what pushing turns. -/
import Derived.Test.YtnhodgonmceojaaFT
set_option linter.unusedVariables false
set_option linter.unusedSimpArgs false
namespace Go.Proofs.Ytnhodgonmceojaa.Sh
open Go.RowKit

/-! ### Contracts of flow: levels. -/
/-- A slice that is the whole of a row of its own. -/
def Own (m0 m : Mem) (v : Value) (l : List (List Value)) (e : TypeId) (z : Nat) : Prop :=
  (v = .slice none 0 0 ∧ l = []) ∨ ∃ i c, m0.next ≤ i ∧ i < m.next ∧ v = .slice (some ⟨i, 0, none⟩) l.length c ∧ (c = l.length ∨ c = big + l.length) ∧ m.get i = some (.cells l.flatten e z)
theorem Acc.own {m0 m : Mem} {v : Value} {l : List (List Value)} {e : TypeId} {z : Nat} (h : Acc m0 m v l e z) : Own m0 m v l e z := by
  rcases h with h | ⟨i, h1, h2, h3, h4⟩
  · exact .inl h
  · exact .inr ⟨i, _, h1, h2, h3, .inr rfl, h4⟩
theorem Own.of_get {m0 m m' : Mem} {v : Value} {l : List (List Value)} {e : TypeId} {z : Nat} (h : Own m0 m v l e z) (hn : m.next ≤ m'.next) (hg : ∀ a n c, v = .slice (some a) n c → m0.next ≤ a.block → a.block < m.next → m'.get a.block = m.get a.block) : Own m0 m' v l e z := by
  rcases h with h | ⟨i, c, h1, h2, h3, h5, h4⟩
  · exact .inl h
  · exact .inr ⟨i, c, h1, Nat.lt_of_lt_of_le h2 hn, h3, h5, (hg _ _ _ h3 h1 h2).trans h4⟩
theorem Own.mext {m0 m m' : Mem} {v : Value} {l : List (List Value)} {e : TypeId} {z : Nat} (h : Own m0 m v l e z) (hm : Mext m m') : Own m0 m' v l e z := h.of_get hm.next fun a n c _ _ h2 => hm.get _ h2
theorem Own.set {m0 m : Mem} {v : Value} {l : List (List Value)} {e : TypeId} {z : Nat} (h : Own m0 m v l e z) {j : Nat} (hj : j < m0.next) (o : AObj) : Own m0 (m.set j o) v l e z :=
  h.of_get (Nat.le_refl _) fun a n c _ h1 _ => Mem.get_set_ne _ _ _ (by omega)
theorem Own.row {m0 m : Mem} {v : Value} {l : List (List Value)} {e : TypeId} {z : Nat} (h : Own m0 m v l e z) : ∀ a n c, v = .slice (some a) n c → m0.next ≤ a.block ∧ a.block < m.next := by
  intro a n c hv
  rcases h with ⟨rfl, _⟩ | ⟨i, c, h1, h2, rfl, _, _⟩
  · cases hv
  · cases hv; exact ⟨h1, h2⟩
theorem Own.ok {m0 m : Mem} {v : Value} {l : List (List Value)} {e : TypeId} {z : Nat} (h : Own m0 m v l e z) : okVal v = true ∧ v.cells = #[v] ∧ okCell v = true := by
  rcases h with ⟨rfl, _⟩ | ⟨i, c, _, _, rfl, _, _⟩ <;> exact ⟨rfl, rfl, rfl⟩
theorem Own.ints {m0 m : Mem} {v : Value} {l : List Int} {t : TypeId} (h : Own m0 m v (intCells l) t 1) : Ints m v l := by
  have hf : (intCells l).flatten = l.map (Value.int .i64) := by
    clear h
    unfold intCells
    induction l with
    | nil => rfl
    | cons a r ih => rw [List.map_cons, List.flatten_cons, ih]; rfl
  rcases h with ⟨rfl, hl⟩ | ⟨i, c, h1, h2, rfl, h5, h3⟩
  · have : l = [] := by cases l with
      | nil => rfl
      | cons a r => simp [intCells] at hl
    subst this
    exact ⟨⟨none, 0, rfl⟩, fun a n c hv => (by cases hv), fun _ _ _ => rfl, fun a n c hv => (by cases hv)⟩
  · refine ⟨⟨some ⟨i, 0, none⟩, c, by simp [intCells]⟩, fun a n c hv j x hx => ?_, fun n c hv => (by cases hv), fun a n c hv => (by cases hv; exact h2)⟩
    cases hv
    rw [cell_of h3, hf]
    simp [hx]
theorem app1_own {m0 m : Mem} {v : Value} {l : List (List Value)} {e : TypeId} {z bytes : Nat} {x : List Value} (h : Own m0 m v l e z) (h0 : m0.next ≤ m.next) (hl : ∀ x ∈ l, x.length = z) (hx : x.length = z) (hok : x.all okCell = true) (hn : l.length < 1000000) (hb : bytes ≤ 1000) :
    ∃ v' m', appL e z bytes v 1 x m = some (v', m') ∧ Acc m0 m' v' (l ++ [x]) e z ∧ (∃ n c, v' = .slice (some ⟨m.next, 0, none⟩) n c) ∧ m'.next = m.next + 1 ∧ ∀ j, j < m.next → (∀ a n c, v = .slice (some a) n c → a.block ≠ j) → m'.get j = m.get j := by
  rcases h with h | ⟨i, c, h1, h2, h3, h5, h4⟩
  · exact app1_acc2 (.inl h) h0 hl hx hok hn hb
  · rcases h5 with h5 | h5
    · subst h5; subst h3
      have hmb := maxLen_big
      have hml : (1000001 : Nat) ≤ maxLen := by unfold maxLen; omega
      have hbb : (l.length + 1) * bytes ≤ 140737488355328 := Nat.le_trans (Nat.mul_le_mul (show l.length + 1 ≤ 1000000 by omega) hb) (by omega)
      have hfl := flatten_len hl
      refine ⟨.slice (some ⟨m.next, 0, none⟩) (l.length + 1) (big + (l.length + 1)), m.new (.cells (l.flatten ++ x) e z), ?_, .inr ⟨m.next, h0, by rw [Mem.next_new]; omega, by simp, ?_⟩, ⟨_, _, rfl⟩, by rw [Mem.next_new], fun j hj _ => Mem.get_new_ne _ _ (by omega)⟩
      · unfold appL
        rw [if_pos hok]
        simp only [h4]
        rw [if_neg (by rw [if_pos (by omega)]; omega), if_pos ⟨by omega, hbb⟩, if_pos (by omega), if_pos (by rw [hfl]; simp)]
        rw [List.drop_zero, List.take_of_length_le (by rw [hfl]; omega)]
      · rw [Mem.get_new]; simp
    · subst h5
      exact app1_acc2 (.inr ⟨i, h1, h2, h3, h4⟩) h0 hl hx hok hn hb
theorem Ints.ldN {m : Mem} {v : Value} {q : List Nat} (h : Ints m v (q.map fun (j : Nat) => (j : Int))) {i : Nat} (hi : i < q.length) : ∃ a c, v = .slice (some a) q.length c ∧ a.block < m.next ∧ cellO (m.get a.block) (a.off + i) = some (.int .i64 ((q[i] : Nat) : Int)) := by
  obtain ⟨ao, c, rfl⟩ := h.len
  obtain ⟨a, rfl, hn, h1, h2⟩ := h.ld (j := i) (by rw [List.length_map]; exact hi)
  refine ⟨a, c, by rw [List.length_map], h1, ?_⟩
  rw [h2, List.getElem_map]
theorem intCells_one (l : List Int) : ∀ y ∈ intCells l, y.length = 1 := fun y hy => by obtain ⟨_, _, rfl⟩ := List.mem_map.1 hy; rfl
theorem intCells_len (l : List Int) : (intCells l).length = l.length := by unfold intCells; rw [List.length_map]
theorem intCells_snoc (l : List Int) (x : Int) : intCells l ++ [[.int .i64 x]] = intCells (l ++ [x]) := by unfold intCells; rw [List.map_append]; rfl

theorem WorkAt.mext {m m' : Mem} {b : Nat} {N : Int} {l : List ArcI} {left : Nat → Int} {at_ : Nat → Value} (h : WorkAt m b N l left at_) (hm : Mext m m') : WorkAt m' b N l left at_ :=
  ⟨(hm.get _ h.2.1).trans h.1, Nat.lt_of_lt_of_le h.2.1 hm.next, fun p hp => (h.2.2 p hp).exc (hm.exc _)⟩

/-! ### Levels, plainly -/
def toN (l : List ArcI) (j : Nat) : Nat := (toOf l j).toNat
theorem half_ok {N : Int} {l : List ArcI} (hok : ∀ x ∈ l, ArcI.ok N x) {j : Nat} (hj : j < 2 * l.length) : ∃ a, l[j / 2]? = some a ∧ a.ok N := by
  have h : j / 2 < l.length := by omega
  exact ⟨l[j / 2], List.getElem?_eq_getElem h, hok _ (List.getElem_mem h)⟩
theorem toN_eq {N : Int} {l : List ArcI} (hok : ∀ x ∈ l, ArcI.ok N x) {j : Nat} (hj : j < 2 * l.length) : toOf l j = (toN l j : Int) ∧ (toN l j : Int) < N := by
  obtain ⟨a, h1, h2⟩ := half_ok hok hj
  obtain ⟨f, t, hf, ht, h3, h4, _⟩ := ok_nat h2
  unfold toN
  have : toOf l j = if j % 2 = 0 then a.t else a.f := by unfold toOf; rw [h1]
  rw [this]
  split <;> omega

structure LevOk (N : Int) (l : List ArcI) (left : Nat → Int) (s : Nat) (lev : Nat → Int) : Prop where
  src : lev s = 0
  all : ∀ p, p < 24 → lev p = -1 ∨ (0 ≤ lev p ∧ lev p < 24 ∧ (p : Int) < N)
  clo : ∀ p, p < 24 → 0 ≤ lev p → ∀ j ∈ adjN l p, 0 < left j → 0 ≤ lev (toN l j)
  pre : ∀ p, p < 24 → 0 < lev p → ∃ u j, u < 24 ∧ 0 ≤ lev u ∧ lev p = lev u + 1 ∧ j ∈ adjN l u ∧ 0 < left j ∧ toN l j = p
  zero : ∀ p, p < 24 → lev p = 0 → p = s

def cntF (lev : Nat → Int) : Nat := (List.range 24).countP fun p => decide (0 ≤ lev p)
structure BInv (N : Int) (l : List ArcI) (left : Nat → Int) (s : Nat) (lev : Nat → Int) (q : List Nat) (i : Nat) : Prop where
  cnt : cntF lev = q.length
  mem : ∀ x ∈ q, (x : Int) < N ∧ 0 ≤ lev x
  inq : ∀ p, p < 24 → 0 ≤ lev p → p ∈ q
  clo : ∀ k (hk : k < q.length), k < i → ∀ j ∈ adjN l q[k], 0 < left j → 0 ≤ lev (toN l j)
  all : ∀ p, p < 24 → lev p = -1 ∨ (0 ≤ lev p ∧ lev p < q.length)
  pre : ∀ p, p < 24 → 0 < lev p → ∃ u j, u < 24 ∧ 0 ≤ lev u ∧ lev p = lev u + 1 ∧ j ∈ adjN l u ∧ 0 < left j ∧ toN l j = p
  src : lev s = 0
  zero : ∀ p, p < 24 → lev p = 0 → p = s

theorem countP_upd {α : Type} (f : Nat → α) (P : α → Bool) (k : Nat) (x : α) (h0 : P (f k) = false) (h1 : P x = true) : ∀ n, k < n → (List.range n).countP (fun p => P (upd f k x p)) = (List.range n).countP (fun p => P (f p)) + 1
  | 0, h => by omega
  | n + 1, h => by
    rw [List.range_succ, List.countP_append, List.countP_append]
    by_cases hk : k = n
    · subst hk
      have : (List.range k).countP (fun p => P (upd f k x p)) = (List.range k).countP (fun p => P (f p)) := by
        refine List.countP_congr fun p hp => ?_
        have := List.mem_range.1 hp
        rw [upd_ne _ _ (by omega)]
      rw [this]
      simp [upd_same, h0, h1]
    · rw [countP_upd f P k x h0 h1 n (by omega)]
      have : upd f k x n = f n := upd_ne _ _ (by omega)
      simp only [List.countP_cons, List.countP_nil, this]
      omega
theorem BInv.len {N : Int} {l : List ArcI} {left : Nat → Int} {s : Nat} {lev : Nat → Int} {q : List Nat} {i : Nat} (h : BInv N l left s lev q i) : q.length ≤ 24 := by
  rw [← h.cnt]; unfold cntF; exact Nat.le_trans List.countP_le_length (by simp)
theorem BInv.start (N : Int) (l : List ArcI) (left : Nat → Int) (s : Nat) (hs : (s : Int) < N) (hN : N ≤ 24) : BInv N l left s (upd (fun _ => -1) s 0) [s] 0 where
  cnt := by
    unfold cntF
    rw [countP_upd (fun _ => (-1 : Int)) (fun x => decide (0 ≤ x)) s 0 (by decide) (by decide) 24 (by omega)]
    rfl
  mem := fun x hx => by simp at hx; subst hx; rw [upd_same]; exact ⟨hs, by omega⟩
  inq := fun p hp h => by
    rw [upd_at] at h
    split at h
    · rename_i e; subst e; simp
    · omega
  clo := fun k hk h => by omega
  all := fun p hp => by
    rw [upd_at]
    split
    · right; simp
    · left; rfl
  pre := fun p hp h => by
    rw [upd_at] at h
    split at h <;> omega
  src := upd_same _ _ _
  zero := fun p hp h => by
    rw [upd_at] at h
    split at h
    · rename_i e; exact e
    · omega
theorem BInv.next {N : Int} {l : List ArcI} {left : Nat → Int} {s : Nat} {lev : Nat → Int} {q : List Nat} {i : Nat} (h : BInv N l left s lev q i) (hi : i < q.length) (hc : ∀ j ∈ adjN l q[i], 0 < left j → 0 ≤ lev (toN l j)) : BInv N l left s lev q (i + 1) :=
  ⟨h.cnt, h.mem, h.inq, fun k hk hki j hj h0 => by
    by_cases e : k = i
    · subst e; exact hc j hj h0
    · exact h.clo k hk (by omega) j hj h0, h.all, h.pre, h.src, h.zero⟩
theorem BInv.add {N : Int} {l : List ArcI} {left : Nat → Int} {s : Nat} {lev : Nat → Int} {q : List Nat} {i : Nat} (hN : N ≤ 24) (hok : ∀ x ∈ l, ArcI.ok N x) (h : BInv N l left s lev q i) (hi : i < q.length) {j : Nat} (hj : j ∈ adjN l q[i]) (h0 : 0 < left j) (hl : lev (toN l j) < 0) :
    BInv N l left s (upd lev (toN l j) (lev q[i] + 1)) (q ++ [toN l j]) i := by
  have hjl := (adjN_mem.1 hj).1
  have ht := toN_eq hok hjl
  have hu := h.mem q[i] (List.getElem_mem hi)
  have ht24 : toN l j < 24 := by omega
  have hle : ∀ p, 0 ≤ lev p → upd lev (toN l j) (lev q[i] + 1) p = lev p := fun p hp => upd_ne _ _ (by rintro rfl; omega)
  have hmono : ∀ p, 0 ≤ lev p → 0 ≤ upd lev (toN l j) (lev q[i] + 1) p := fun p hp => by rw [hle p hp]; exact hp
  have hsame := upd_same lev (toN l j) (lev q[i] + 1)
  have hq24 : q[i] < 24 := by omega
  refine ⟨?_, ?_, ?_, ?_, ?_, ?_, ?_, ?_⟩
  · unfold cntF
    rw [countP_upd lev (fun x => decide (0 ≤ x)) _ _ (by simp; omega) (by simp; omega) 24 ht24]
    have := h.cnt
    unfold cntF at this
    simp [this]
  · intro x hx
    rcases List.mem_append.1 hx with hx | hx
    · exact ⟨(h.mem x hx).1, hmono x (h.mem x hx).2⟩
    · simp at hx; subst hx; exact ⟨ht.2, by rw [hsame]; omega⟩
  · intro p hp h1
    by_cases e : p = toN l j
    · subst e; simp
    · rw [upd_ne _ _ e] at h1; exact List.mem_append_left _ (h.inq p hp h1)
  · intro k hk hki j' hj' h1
    rw [List.getElem_append_left (by omega)] at hj'
    exact hmono _ (h.clo k (by omega) hki j' hj' h1)
  · intro p hp
    by_cases e : p = toN l j
    · subst e
      right
      rw [hsame, List.length_append, List.length_singleton]
      rcases h.all q[i] hq24 with h1 | h1 <;> omega
    · rw [upd_ne _ _ e, List.length_append, List.length_singleton]
      rcases h.all p hp with h1 | h1
      · exact .inl h1
      · right; omega
  · intro p hp h1
    by_cases e : p = toN l j
    · subst e
      exact ⟨q[i], j, hq24, hmono _ hu.2, by rw [hsame, hle _ hu.2], hj, h0, rfl⟩
    · rw [upd_ne _ _ e] at h1 ⊢
      obtain ⟨u, j', g1, g2, g3, g4, g5, g6⟩ := h.pre p hp h1
      exact ⟨u, j', g1, hmono _ g2, by rw [hle _ g2]; exact g3, g4, g5, g6⟩
  · rw [hle _ (by rw [h.src]; omega)]; exact h.src
  · intro p hp h1
    by_cases e : p = toN l j
    · subst e; rw [hsame] at h1; omega
    · rw [upd_ne _ _ e] at h1; exact h.zero p hp h1
theorem BInv.done {N : Int} {l : List ArcI} {left : Nat → Int} {s : Nat} {lev : Nat → Int} {q : List Nat} (hN : N ≤ 24) (h : BInv N l left s lev q q.length) : LevOk N l left s lev where
  src := h.src
  all := fun p hp => by
    rcases h.all p hp with h1 | h1
    · exact .inl h1
    · have := h.len
      exact .inr ⟨h1.1, by omega, (h.mem p (h.inq p hp h1.1)).1⟩
  clo := fun p hp h0 j hj h1 => by
    obtain ⟨k, hk, e⟩ := List.getElem_of_mem (h.inq p hp h0)
    subst e
    exact h.clo k hk hk j hj h1
  pre := h.pre
  zero := h.zero

/-! ### Contracts of flow: levels, the walk. -/
theorem zc117 : Zc Try.prog 117 = iv (fun _ => 0) 24 := by kernel_rfl
theorem bslice1 (x : Int) : buildA (zeros Try.prog 3 1) [(0, 1, .int .i64 x)] = some [.int .i64 x] := build31 x
def natI (q : List Nat) : List Int := q.map fun (j : Nat) => (j : Int)
theorem natI_len (q : List Nat) : (natI q).length = q.length := by unfold natI; rw [List.length_map]
theorem natI_snoc (q : List Nat) (x : Nat) : natI (q ++ [x]) = natI q ++ [(x : Int)] := by unfold natI; rw [List.map_append]; rfl
theorem adjOf_nat (l : List ArcI) (p : Nat) : adjOf l p = natI (adjN l p) := rfl

set_option maxRecDepth 100000 in
theorem levels_spec {Γ : YEnv} (hΓ : YMono Γ) (b : Nat) (N : Int) (l : List ArcI) (left : Nat → Int) (at_ : Nat → Value) (s : Nat) (m : Mem) (hw : WorkAt m b N l left at_) (hN : N ≤ 24) (hs : (s : Int) < N) (hok : ∀ x ∈ l, ArcI.ok N x) (hl : l.length ≤ 200) :
    ACalls Try.prog Γ 52 [.pointer (some ⟨b, 0, none⟩), .int .i64 s] m fun r m' => ∃ lev, r = .agg (iv lev 24).toArray ∧ LevOk N l left s lev ∧ Mext m m' := by
  refine acallsW hΓ fok52 (by simp [X52]) fun Q hQ => ?_
  simp (decide := true) only [S52_0, S52_1, S52_2, S52_3, S52_4, S52_5, S52_6, S52_7, S52_8, S52_9, S52_10, S52_11, S52_12, S52_13, S52_14, S52_15, S52_16, S52_17, S52_18, S52_19, S52_20, S52_21, S52_22, S52_23, S52_24, S52_25, S52_26, S52_27, S52_28, S52_29, S52_30, S52_31, S52_32, S52_33, S52_34, S52_35, S52_36, S52_37, S52_38, S52_39, S52_40, S52_41, S52_42, S52_43, S52_44, S52_45, S52_46, S52_47, S52_48, S52_49, S52_50, S52_51, S52_52, S52_53, S52_54, S52_55, S52_56, S52_57, S52, X52, G52, zc117, EV2, MVn, qv, qvK, List.set_cons_zero, List.set_cons_succ, List.toList_toArray, Int.reduceToNat, Nat.reduceAdd, Nat.reduceMul, Nat.one_mul, Bool.not_true, Bool.not_false, EV, step, List.map_cons, List.map_nil, Option.map_some, Option.map_none, if_true, if_false, reduceIte, List.getElem?_cons_zero, List.getElem?_cons_succ, Option.getD_some, List.nil_append, List.append_nil, List.cons_append, List.getElem?_nil, Option.getD_none, true_implies, false_implies, not_true_eq_false, not_false_eq_true, and_true, true_and, decide_true, decide_false, Int.natCast_nonneg, Int.toNat_natCast, Nat.mul_one, List.size_toArray, List.getElem?_toArray, List.length_cons, List.length_nil, Nat.zero_add, Nat.add_zero, List.drop_zero, List.take_succ_cons, List.take_zero, List.drop_succ_cons, List.all_cons, List.all_nil, Bool.and_true, Bool.and_self, and_self]
  refine W_loop (fun k f m' => ∃ i : Nat, i ≤ 24 ∧ k = 24 - i ∧ Mext m m' ∧ m.next + 2 ≤ m'.next ∧ m'.get m.next = some (.cells (iv (fun _ => 0) 24) 117 24) ∧ m'.get (m.next + 1) = some (.cells (iv (fun p => if p < i then -1 else 0) 24) 117 24) ∧
      (f 0).v = .pointer (some ⟨b, 0, none⟩) ∧ (f 1).v = .int .i64 s ∧ (f 4).v = .pointer (some ⟨m.next, 0, none⟩) ∧ (f 5).v = .pointer (some ⟨m.next + 1, 0, none⟩) ∧ (f 12).v = .int .i64 i)
    24 ⟨0, by omega, rfl, ((Mext.refl m).new _).new _, by simp only [Mem.next_new]; omega, by simp (decide := true) only [EV2, MVn, qv, qvK, List.set_cons_zero, List.set_cons_succ, List.toList_toArray, Int.reduceToNat, Nat.reduceAdd, Nat.reduceMul, Nat.one_mul, Bool.not_true, Bool.not_false, EV, step, List.map_cons, List.map_nil, Option.map_some, Option.map_none, if_true, if_false, reduceIte, List.getElem?_cons_zero, List.getElem?_cons_succ, Option.getD_some, List.nil_append, List.append_nil, List.cons_append, List.getElem?_nil, Option.getD_none, true_implies, false_implies, not_true_eq_false, not_false_eq_true, and_true, true_and, decide_true, decide_false, Int.natCast_nonneg, Int.toNat_natCast, Nat.mul_one, List.size_toArray, List.getElem?_toArray, List.length_cons, List.length_nil, Nat.zero_add, Nat.add_zero, List.drop_zero, List.take_succ_cons, List.take_zero, List.drop_succ_cons, List.all_cons, List.all_nil, Bool.and_true, Bool.and_self, and_self], by simp (decide := true) only [EV2, MVn, qv, qvK, List.set_cons_zero, List.set_cons_succ, List.toList_toArray, Int.reduceToNat, Nat.reduceAdd, Nat.reduceMul, Nat.one_mul, Bool.not_true, Bool.not_false, EV, step, List.map_cons, List.map_nil, Option.map_some, Option.map_none, if_true, if_false, reduceIte, List.getElem?_cons_zero, List.getElem?_cons_succ, Option.getD_some, List.nil_append, List.append_nil, List.cons_append, List.getElem?_nil, Option.getD_none, true_implies, false_implies, not_true_eq_false, not_false_eq_true, and_true, true_and, decide_true, decide_false, Int.natCast_nonneg, Int.toNat_natCast, Nat.mul_one, List.size_toArray, List.getElem?_toArray, List.length_cons, List.length_nil, Nat.zero_add, Nat.add_zero, List.drop_zero, List.take_succ_cons, List.take_zero, List.drop_succ_cons, List.all_cons, List.all_nil, Bool.and_true, Bool.and_self, and_self]; rfl, rfl, rfl, rfl, rfl, rfl⟩ hΓ ?_
  rintro k f m' ⟨i, hi, rfl, hm, hnx, g0, g1, f0, f1, f4, f5, f12⟩ Q' hn he hret
  by_cases hlt : i < 24
  · have hlt' : ((i : Int) < 24) = True := eq_true (by omega)
    have hlt2 : ((i : Int) < ((24 : Nat) : Int)) = True := eq_true (by omega)
    have hw1 : IntKind.wrap .i64 ((i : Int) + 1) = ((i + 1 : Nat) : Int) := by rw [wrap_i64 (by omega) (by omega)]; omega
    have hlen : (i + 1 ≤ 24) = True := eq_true (by omega)
    simp (decide := true) only [f0, f1, f4, f5, f12, g1, hlt', hlt2, hw1, hlen, iv_len, iv_set, EV2, MVn, qv, qvK, List.set_cons_zero, List.set_cons_succ, List.toList_toArray, Int.reduceToNat, Nat.reduceAdd, Nat.reduceMul, Nat.one_mul, Bool.not_true, Bool.not_false, EV, step, List.map_cons, List.map_nil, Option.map_some, Option.map_none, if_true, if_false, reduceIte, List.getElem?_cons_zero, List.getElem?_cons_succ, Option.getD_some, List.nil_append, List.append_nil, List.cons_append, List.getElem?_nil, Option.getD_none, true_implies, false_implies, not_true_eq_false, not_false_eq_true, and_true, true_and, decide_true, decide_false, Int.natCast_nonneg, Int.toNat_natCast, Nat.mul_one, List.size_toArray, List.getElem?_toArray, List.length_cons, List.length_nil, Nat.zero_add, Nat.add_zero, List.drop_zero, List.take_succ_cons, List.take_zero, List.drop_succ_cons, List.all_cons, List.all_nil, Bool.and_true, Bool.and_self, and_self]
    refine hn _ _ _ (by omega) ⟨i + 1, hlt, rfl, hm.set (by omega) _, by rw [next_set]; exact hnx, ?_, ?_, by simp [sem, f0], by simp [sem, f1], by simp [sem, f4], by simp [sem, f5], by simp [sem, Slot.v]⟩
    · rw [Mem.get_set_ne _ _ _ (by omega)]; exact g0
    · rw [Mem.get_set]
      rw [iv_congr (g := fun p => if p < i + 1 then -1 else 0)]
      intro p hp
      rw [upd_at]
      by_cases h1 : p = i
      · simp [h1]
      · rw [if_neg h1]; by_cases h2 : p < i
        · rw [if_pos h2, if_pos (by omega)]
        · rw [if_neg h2, if_neg (by omega)]
  · have hlt' : ((i : Int) < 24) = False := eq_false (by omega)
    have hi24 : i = 24 := by omega
    subst hi24
    have g1' : m'.get (m.next + 1) = some (.cells (iv (fun _ => -1) 24) 117 24) := by
      rw [g1, iv_congr (g := fun _ => -1)]
      intro p hp; rw [if_pos hp]
    have hs24 : ((s : Int) < ((24 : Nat) : Int)) = True := eq_true (by omega)
    have hs1 : (s + 1 ≤ 24) = True := eq_true (by omega)
    simp (decide := true) only [f12, hlt', EV2, MVn, qv, qvK, List.set_cons_zero, List.set_cons_succ, List.toList_toArray, Int.reduceToNat, Nat.reduceAdd, Nat.reduceMul, Nat.one_mul, Bool.not_true, Bool.not_false, EV, step, List.map_cons, List.map_nil, Option.map_some, Option.map_none, if_true, if_false, reduceIte, List.getElem?_cons_zero, List.getElem?_cons_succ, Option.getD_some, List.nil_append, List.append_nil, List.cons_append, List.getElem?_nil, Option.getD_none, true_implies, false_implies, not_true_eq_false, not_false_eq_true, and_true, true_and, decide_true, decide_false, Int.natCast_nonneg, Int.toNat_natCast, Nat.mul_one, List.size_toArray, List.getElem?_toArray, List.length_cons, List.length_nil, Nat.zero_add, Nat.add_zero, List.drop_zero, List.take_succ_cons, List.take_zero, List.drop_succ_cons, List.all_cons, List.all_nil, Bool.and_true, Bool.and_self, and_self]
    refine he _ _ _ ?_
    simp (decide := true) only [f0, f1, f4, f5, f12, g1', hs24, hs1, iv_len, iv_set, bslice1, EV2, MVn, qv, qvK, List.set_cons_zero, List.set_cons_succ, List.toList_toArray, Int.reduceToNat, Nat.reduceAdd, Nat.reduceMul, Nat.one_mul, Bool.not_true, Bool.not_false, EV, step, List.map_cons, List.map_nil, Option.map_some, Option.map_none, if_true, if_false, reduceIte, List.getElem?_cons_zero, List.getElem?_cons_succ, Option.getD_some, List.nil_append, List.append_nil, List.cons_append, List.getElem?_nil, Option.getD_none, true_implies, false_implies, not_true_eq_false, not_false_eq_true, and_true, true_and, decide_true, decide_false, Int.natCast_nonneg, Int.toNat_natCast, Nat.mul_one, List.size_toArray, List.getElem?_toArray, List.length_cons, List.length_nil, Nat.zero_add, Nat.add_zero, List.drop_zero, List.take_succ_cons, List.take_zero, List.drop_succ_cons, List.all_cons, List.all_nil, Bool.and_true, Bool.and_self, and_self]
    have hmS : Mext m (m'.set (m.next + 1) (.cells (iv (upd (fun _ => -1) s 0) 24) 117 24)) := hm.set (by omega) _
    let mb : Mem := ⟨fun _ => none, m.next + 2⟩
    refine W_loop (fun k f m2 => ∃ (lev : Nat → Int) (q : List Nat) (i : Nat) (v : Value), i ≤ q.length ∧ k = 24 - i ∧ Mext m m2 ∧ m.next + 2 ≤ m2.next ∧ m2.get m.next = some (.cells (iv (fun _ => 0) 24) 117 24) ∧ m2.get (m.next + 1) = some (.cells (iv lev 24) 117 24) ∧
        Own mb m2 v (intCells (natI q)) 3 1 ∧ BInv N l left s lev q i ∧
        (f 0).v = .pointer (some ⟨b, 0, none⟩) ∧ (f 1).v = .int .i64 s ∧ (f 4).v = .pointer (some ⟨m.next, 0, none⟩) ∧ (f 5).v = .pointer (some ⟨m.next + 1, 0, none⟩) ∧ (f 7).v = v ∧ (f 8).v = .int .i64 i)
      24 ⟨upd (fun _ => -1) s 0, [s], 0, _, by simp, rfl, hmS.new _, by simp only [Mem.next_new, next_set]; omega, ?_, ?_, ?_, BInv.start N l left s hs hN, by simp [sem, f0], by simp [sem, f1], by simp [sem, f4], by simp [sem, f5], rfl, by simp [sem, Slot.v]⟩ hΓ ?_
    · rw [Mem.get_new_ne _ _ (by rw [next_set]; omega), Mem.get_set_ne _ _ _ (by omega)]; exact g0
    · rw [Mem.get_new_ne _ _ (by rw [next_set]; omega), Mem.get_set]
    · exact .inr ⟨m'.next, 1, hnx, by rw [Mem.next_new, next_set]; omega, rfl, .inl rfl, Mem.get_new _ _⟩
    clear g0 g1 g1' f0 f1 f4 f5 f12 hm hmS hnx he hret hn f m'
    rintro k f m2 ⟨lev, q, i, v, hiq, rfl, hm, hnx, g0, g1, own, binv, f0, f1, f4, f5, f7, f8⟩ Q2 hn he hret
    obtain ⟨ao, c, hv⟩ := own.ints.len
    rw [natI_len] at hv
    have hq24 := binv.len
    by_cases hlt : i < q.length
    · have hlt' : ((i : Int) < q.length) = True := eq_true (by omega)
      obtain ⟨a, c', hv', ha, hcell⟩ := own.ints.ldN (q := q) hlt
      rw [hv] at hv'; cases hv'
      have hu := binv.mem q[i] (List.getElem_mem hlt)
      have hu24 : q[i] < 24 := by omega
      have hu24' : ((q[i] : Int) < ((24 : Nat) : Int)) = True := eq_true (by omega)
      have hww := hw.mext hm
      obtain ⟨wg, wb, wsl⟩ := hww
      obtain ⟨bo, bc, hbv⟩ := (wsl q[i] hu24).len
      rw [adjOf_nat, natI_len] at hbv
      have hw8 : IntKind.wrap .i64 ((i : Int) + 1) = ((i + 1 : Nat) : Int) := by rw [wrap_i64 (by omega) (by omega)]; omega
      subst hv
      simp (decide := true) only [f0, f1, f4, f5, f7, f8, hlt', hcell, hu24, hu24', wg, wk_at, hbv, EV2, MVn, qv, qvK, List.set_cons_zero, List.set_cons_succ, List.toList_toArray, Int.reduceToNat, Nat.reduceAdd, Nat.reduceMul, Nat.one_mul, Bool.not_true, Bool.not_false, EV, step, List.map_cons, List.map_nil, Option.map_some, Option.map_none, if_true, if_false, reduceIte, List.getElem?_cons_zero, List.getElem?_cons_succ, Option.getD_some, List.nil_append, List.append_nil, List.cons_append, List.getElem?_nil, Option.getD_none, true_implies, false_implies, not_true_eq_false, not_false_eq_true, and_true, true_and, decide_true, decide_false, Int.natCast_nonneg, Int.toNat_natCast, Nat.mul_one, List.size_toArray, List.getElem?_toArray, List.length_cons, List.length_nil, Nat.zero_add, Nat.add_zero, List.drop_zero, List.take_succ_cons, List.take_zero, List.drop_succ_cons, List.all_cons, List.all_nil, Bool.and_true, Bool.and_self, and_self]
      generalize hueq : q[i] = u at *
      refine W_loop (fun (k : Nat) (f : Fr) (m3 : Mem) => (∃ (lev : Nat → Int) (q : List Nat) (kk : Nat) (v : Value) (hqi : i < q.length), q[i] = u ∧ kk ≤ (adjN l u).length ∧ k = (adjN l u).length - kk ∧ Mext m m3 ∧ m.next + 2 ≤ m3.next ∧ m3.get m.next = some (.cells (iv (fun _ => 0) 24) 117 24) ∧ m3.get (m.next + 1) = some (.cells (iv lev 24) 117 24) ∧
          Own mb m3 v (intCells (natI q)) 3 1 ∧ BInv N l left s lev q i ∧ (∀ j ∈ (adjN l u).take kk, 0 < left j → 0 ≤ lev (toN l j)) ∧
          (f 0).v = .pointer (some ⟨b, 0, none⟩) ∧ (f 1).v = .int .i64 s ∧ (f 4).v = .pointer (some ⟨m.next, 0, none⟩) ∧ (f 5).v = .pointer (some ⟨m.next + 1, 0, none⟩) ∧ (f 7).v = v ∧ (f 8).v = .int .i64 i ∧ (f 36).v = .slice bo (adjN l u).length bc ∧ (f 37).v = .int .i64 (adjN l u).length ∧ (f 38).v = .int .i64 kk))
        (adjN l u).length ⟨lev, q, 0, _, hlt, hueq, by omega, rfl, hm, hnx, g0, g1, own, binv, by simp, by simp [sem, f0], by simp [sem, f1], by simp [sem, f4], by simp [sem, f5], by simp [sem, f7], by simp [sem, f8], by simp [sem, Slot.v], by simp [sem, Slot.v], by simp [sem, Slot.v]⟩ hΓ ?_
      clear g0 g1 own binv f0 f1 f4 f5 f7 f8 hlt hlt' hcell hueq hu hu24' wsl wg wb hq24 hiq hm hnx ha lev q m2 f a
      rintro k f m3 ⟨lev, q, kk, v, hqi, hqu, hkk, rfl, hm, hnx, g0, g1, own, binv, hC, f0, f1, f4, f5, f7, f8, f36, f37, f38⟩ Q3 hn3 he3 hret3
      obtain ⟨wg, wb, wsl⟩ := hw.mext hm
      by_cases hklt : kk < (adjN l u).length
      · have hklt' : ((kk : Int) < (adjN l u).length) = True := eq_true (by omega)
        obtain ⟨a2, c2, hbv2, hb2, hcell2⟩ := (wsl u hu24).ints.ldN (q := adjN l u) hklt
        rw [hbv] at hbv2; cases hbv2
        have hjm : (adjN l u)[kk] ∈ adjN l u := List.getElem_mem hklt
        have htk : (adjN l u).take (kk + 1) = (adjN l u).take kk ++ [(adjN l u)[kk]] := (List.take_append_getElem hklt).symm
        generalize (adjN l u)[kk] = j at hjm htk hcell2
        have hj4 : j < 400 := by have := (adjN_mem.1 hjm).1; omega
        have hj4' : ((j : Int) < ((400 : Nat) : Int)) = True := eq_true (by omega)
        obtain ⟨hto, htoN⟩ := toN_eq hok (adjN_mem.1 hjm).1
        have ht24 : toN l j < 24 := by omega
        have ht24' : ((toN l j : Int) < ((24 : Nat) : Int)) = True := eq_true (by omega)
        have hw38 : IntKind.wrap .i64 ((kk : Int) + 1) = ((kk + 1 : Nat) : Int) := by
          have := adjN_len l u
          rw [wrap_i64 (by omega) (by omega)]; omega
        by_cases h1 : 0 < left j
        · by_cases h2 : lev (toN l j) < 0
          · obtain ⟨a3, c3, rfl, hb3, hcell3⟩ := own.ints.ldN (q := q) hqi
            rw [hqu] at hcell3
            have hq24 := binv.len
            have hlevu : 0 ≤ lev u ∧ lev u < q.length := by
              have h3 := (binv.mem q[i] (List.getElem_mem hqi)).2
              rw [hqu] at h3
              rcases binv.all u hu24 with h4 | h4 <;> omega
            have hwl : IntKind.wrap .i64 (lev u + 1) = lev u + 1 := wrap_i64 (by omega) (by omega)
            have hiq' : ((i : Int) < q.length) = True := eq_true (by omega)
            have hu24' : ((u : Int) < ((24 : Nat) : Int)) = True := eq_true (by omega)
            have hst : (toN l j + 1 ≤ 24) = True := eq_true (by omega)
            obtain ⟨v', m4, ha4, acc4, ⟨n4, c4, rfl⟩, hn4, hk4⟩ := app1_own (bytes := 8) (x := [.int .i64 (toN l j : Int)]) (own.set (j := m.next + 1) (by show m.next + 1 < m.next + 2; omega) (.cells (iv (upd lev (toN l j) (lev u + 1)) 24) 117 24)) (by rw [next_set]; exact hnx) (intCells_one _) rfl rfl (by rw [intCells_len, natI_len]; omega) (by omega)
            rw [next_set] at ha4 hn4 acc4
            have hkeep : ∀ r, r < m.next + 2 → m4.get r = (m3.set (m.next + 1) (.cells (iv (upd lev (toN l j) (lev u + 1)) 24) 117 24)).get r := fun r hr => hk4 r (by rw [next_set]; omega) fun a n c hv => by
              have := (own.row a n c hv).1
              simp only [mb] at this; omega
            simp (decide := true) only [f0, f1, f4, f5, f7, f8, f36, f37, f38, wg, g1, hklt', hcell2, hj4, hj4', wk_to, wk_left, hto, h1, h2, ht24, ht24', iv_get, hcell3, hiq', hu24, hu24', hwl, hst, iv_len, iv_set, zeros31, ha4, List.length_singleton, hw38, EV2, MVn, qv, qvK, List.set_cons_zero, List.set_cons_succ, List.toList_toArray, Int.reduceToNat, Nat.reduceAdd, Nat.reduceMul, Nat.one_mul, Bool.not_true, Bool.not_false, EV, step, List.map_cons, List.map_nil, Option.map_some, Option.map_none, if_true, if_false, reduceIte, List.getElem?_cons_zero, List.getElem?_cons_succ, Option.getD_some, List.nil_append, List.append_nil, List.cons_append, List.getElem?_nil, Option.getD_none, true_implies, false_implies, not_true_eq_false, not_false_eq_true, and_true, true_and, decide_true, decide_false, Int.natCast_nonneg, Int.toNat_natCast, Nat.mul_one, List.size_toArray, List.getElem?_toArray, List.length_cons, List.length_nil, Nat.zero_add, Nat.add_zero, List.drop_zero, List.take_succ_cons, List.take_zero, List.drop_succ_cons, List.all_cons, List.all_nil, Bool.and_true, Bool.and_self, and_self]
            have hadd := binv.add hN hok hqi (j := j) (by rw [hqu]; exact hjm) h1 h2
            rw [hqu] at hadd
            refine hn3 _ _ _ (by omega) ⟨_, q ++ [toN l j], kk + 1, .slice (some ⟨m3.next, 0, none⟩) n4 c4, by rw [List.length_append]; omega, by rw [List.getElem_append_left hqi]; exact hqu, hklt, rfl, ?_, by omega, ?_, ?_, ?_, hadd, ?_, by simp [sem, f0], by simp [sem, f1], by simp [sem, f4], by simp [sem, f5], by simp [sem, Slot.v], by simp [sem, f8], by simp [sem, f36], by simp [sem, f37], by simp [sem, Slot.v]⟩
            · exact ⟨by have := hm.next; omega, fun r hr => (hkeep r (by omega)).trans ((hm.set (i := m.next + 1) (by omega) _).get r hr)⟩
            · rw [hkeep _ (by omega), Mem.get_set_ne _ _ _ (by omega)]; exact g0
            · rw [hkeep _ (by omega), Mem.get_set]
            · rw [natI_snoc, ← intCells_snoc]; exact acc4.own
            · rw [htk]
              intro j' hj' h0
              rcases List.mem_append.1 hj' with hj' | hj'
              · have := hC j' hj' h0
                rw [upd_at]; split <;> omega
              · simp at hj'; subst hj'; rw [upd_same]; omega
          · simp (decide := true) only [f0, f1, f4, f5, f7, f8, f36, f37, f38, wg, g1, hklt', hcell2, hj4, hj4', wk_to, wk_left, hto, h1, h2, ht24, ht24', iv_get, hw38, EV2, MVn, qv, qvK, List.set_cons_zero, List.set_cons_succ, List.toList_toArray, Int.reduceToNat, Nat.reduceAdd, Nat.reduceMul, Nat.one_mul, Bool.not_true, Bool.not_false, EV, step, List.map_cons, List.map_nil, Option.map_some, Option.map_none, if_true, if_false, reduceIte, List.getElem?_cons_zero, List.getElem?_cons_succ, Option.getD_some, List.nil_append, List.append_nil, List.cons_append, List.getElem?_nil, Option.getD_none, true_implies, false_implies, not_true_eq_false, not_false_eq_true, and_true, true_and, decide_true, decide_false, Int.natCast_nonneg, Int.toNat_natCast, Nat.mul_one, List.size_toArray, List.getElem?_toArray, List.length_cons, List.length_nil, Nat.zero_add, Nat.add_zero, List.drop_zero, List.take_succ_cons, List.take_zero, List.drop_succ_cons, List.all_cons, List.all_nil, Bool.and_true, Bool.and_self, and_self]
            refine hn3 _ _ _ (by omega) ⟨lev, q, kk + 1, v, hqi, hqu, hklt, rfl, hm, hnx, g0, g1, own, binv, ?_, by simp [sem, f0], by simp [sem, f1], by simp [sem, f4], by simp [sem, f5], by simp [sem, f7], by simp [sem, f8], by simp [sem, f36], by simp [sem, f37], by simp [sem, Slot.v]⟩
            rw [htk]
            intro j' hj' h0
            rcases List.mem_append.1 hj' with hj' | hj'
            · exact hC j' hj' h0
            · simp at hj'; subst hj'; omega
        · simp (decide := true) only [f0, f1, f4, f5, f7, f8, f36, f37, f38, wg, g1, hklt', hcell2, hj4, hj4', wk_to, wk_left, hto, h1, hw38, EV2, MVn, qv, qvK, List.set_cons_zero, List.set_cons_succ, List.toList_toArray, Int.reduceToNat, Nat.reduceAdd, Nat.reduceMul, Nat.one_mul, Bool.not_true, Bool.not_false, EV, step, List.map_cons, List.map_nil, Option.map_some, Option.map_none, if_true, if_false, reduceIte, List.getElem?_cons_zero, List.getElem?_cons_succ, Option.getD_some, List.nil_append, List.append_nil, List.cons_append, List.getElem?_nil, Option.getD_none, true_implies, false_implies, not_true_eq_false, not_false_eq_true, and_true, true_and, decide_true, decide_false, Int.natCast_nonneg, Int.toNat_natCast, Nat.mul_one, List.size_toArray, List.getElem?_toArray, List.length_cons, List.length_nil, Nat.zero_add, Nat.add_zero, List.drop_zero, List.take_succ_cons, List.take_zero, List.drop_succ_cons, List.all_cons, List.all_nil, Bool.and_true, Bool.and_self, and_self]
          refine hn3 _ _ _ (by omega) ⟨lev, q, kk + 1, v, hqi, hqu, hklt, rfl, hm, hnx, g0, g1, own, binv, ?_, by simp [sem, f0], by simp [sem, f1], by simp [sem, f4], by simp [sem, f5], by simp [sem, f7], by simp [sem, f8], by simp [sem, f36], by simp [sem, f37], by simp [sem, Slot.v]⟩
          rw [htk]
          intro j' hj' h0
          rcases List.mem_append.1 hj' with hj' | hj'
          · exact hC j' hj' h0
          · simp at hj'; subst hj'; exact absurd h0 h1
      · have hklt' : ((kk : Int) < (adjN l u).length) = False := eq_false (by omega)
        simp (decide := true) only [f37, f38, hklt', EV2, MVn, qv, qvK, List.set_cons_zero, List.set_cons_succ, List.toList_toArray, Int.reduceToNat, Nat.reduceAdd, Nat.reduceMul, Nat.one_mul, Bool.not_true, Bool.not_false, EV, step, List.map_cons, List.map_nil, Option.map_some, Option.map_none, if_true, if_false, reduceIte, List.getElem?_cons_zero, List.getElem?_cons_succ, Option.getD_some, List.nil_append, List.append_nil, List.cons_append, List.getElem?_nil, Option.getD_none, true_implies, false_implies, not_true_eq_false, not_false_eq_true, and_true, true_and, decide_true, decide_false, Int.natCast_nonneg, Int.toNat_natCast, Nat.mul_one, List.size_toArray, List.getElem?_toArray, List.length_cons, List.length_nil, Nat.zero_add, Nat.add_zero, List.drop_zero, List.take_succ_cons, List.take_zero, List.drop_succ_cons, List.all_cons, List.all_nil, Bool.and_true, Bool.and_self, and_self]
        refine he3 _ _ _ ?_
        simp (decide := true) only [f8, hw8, EV2, MVn, qv, qvK, List.set_cons_zero, List.set_cons_succ, List.toList_toArray, Int.reduceToNat, Nat.reduceAdd, Nat.reduceMul, Nat.one_mul, Bool.not_true, Bool.not_false, EV, step, List.map_cons, List.map_nil, Option.map_some, Option.map_none, if_true, if_false, reduceIte, List.getElem?_cons_zero, List.getElem?_cons_succ, Option.getD_some, List.nil_append, List.append_nil, List.cons_append, List.getElem?_nil, Option.getD_none, true_implies, false_implies, not_true_eq_false, not_false_eq_true, and_true, true_and, decide_true, decide_false, Int.natCast_nonneg, Int.toNat_natCast, Nat.mul_one, List.size_toArray, List.getElem?_toArray, List.length_cons, List.length_nil, Nat.zero_add, Nat.add_zero, List.drop_zero, List.take_succ_cons, List.take_zero, List.drop_succ_cons, List.all_cons, List.all_nil, Bool.and_true, Bool.and_self, and_self]
        rw [List.take_of_length_le (by omega)] at hC
        refine hn _ _ _ (by have := binv.len; omega) ⟨lev, q, i + 1, v, hqi, rfl, hm, hnx, g0, g1, own, binv.next hqi (by rw [hqu]; exact hC), by simp [sem, f0], by simp [sem, f1], by simp [sem, f4], by simp [sem, f5], by simp [sem, f7], by simp [sem, Slot.v]⟩
    · have hlt' : ((i : Int) < q.length) = False := eq_false (by omega)
      have hiq' : i = q.length := by omega
      simp (decide := true) only [f7, f8, hv, hlt', EV2, MVn, qv, qvK, List.set_cons_zero, List.set_cons_succ, List.toList_toArray, Int.reduceToNat, Nat.reduceAdd, Nat.reduceMul, Nat.one_mul, Bool.not_true, Bool.not_false, EV, step, List.map_cons, List.map_nil, Option.map_some, Option.map_none, if_true, if_false, reduceIte, List.getElem?_cons_zero, List.getElem?_cons_succ, Option.getD_some, List.nil_append, List.append_nil, List.cons_append, List.getElem?_nil, Option.getD_none, true_implies, false_implies, not_true_eq_false, not_false_eq_true, and_true, true_and, decide_true, decide_false, Int.natCast_nonneg, Int.toNat_natCast, Nat.mul_one, List.size_toArray, List.getElem?_toArray, List.length_cons, List.length_nil, Nat.zero_add, Nat.add_zero, List.drop_zero, List.take_succ_cons, List.take_zero, List.drop_succ_cons, List.all_cons, List.all_nil, Bool.and_true, Bool.and_self, and_self]
      refine he _ _ _ ?_
      have hall : (iv lev 24).all okCell = true := iv_okCell _ _
      simp (decide := true) only [f4, f5, g0, g1, iv_len, iv_take, hall, splice_all, EV2, MVn, qv, qvK, List.set_cons_zero, List.set_cons_succ, List.toList_toArray, Int.reduceToNat, Nat.reduceAdd, Nat.reduceMul, Nat.one_mul, Bool.not_true, Bool.not_false, EV, step, List.map_cons, List.map_nil, Option.map_some, Option.map_none, if_true, if_false, reduceIte, List.getElem?_cons_zero, List.getElem?_cons_succ, Option.getD_some, List.nil_append, List.append_nil, List.cons_append, List.getElem?_nil, Option.getD_none, true_implies, false_implies, not_true_eq_false, not_false_eq_true, and_true, true_and, decide_true, decide_false, Int.natCast_nonneg, Int.toNat_natCast, Nat.mul_one, List.size_toArray, List.getElem?_toArray, List.length_cons, List.length_nil, Nat.zero_add, Nat.add_zero, List.drop_zero, List.take_succ_cons, List.take_zero, List.drop_succ_cons, List.all_cons, List.all_nil, Bool.and_true, Bool.and_self, and_self]
      refine hQ _ _ _ ⟨.inr rfl, [.agg (iv lev 24).toArray], ?_, lev, rfl, ?_, hm.set (by omega) _⟩
      · simp [X52, R52, resL, sem, f4, cells_get, get_set_at, cellsO_cells, iv_len, iv_take]
      · rw [hiq'] at binv; exact binv.done hN

/-! ### What is left of capacities, plainly: sums at places, what pushing turns. -/
def sumTo : Nat → (Nat → Int) → Int
  | 0, _ => 0
  | n + 1, f => sumTo n f + f n
theorem sumTo_congr {f g : Nat → Int} : ∀ n, (∀ j, j < n → f j = g j) → sumTo n f = sumTo n g
  | 0, _ => rfl
  | n + 1, h => by simp only [sumTo]; rw [sumTo_congr n fun j hj => h j (by omega), h n (by omega)]
theorem sumTo_add (f g : Nat → Int) : ∀ n, sumTo n (fun j => f j + g j) = sumTo n f + sumTo n g
  | 0 => rfl
  | n + 1 => by simp only [sumTo]; rw [sumTo_add f g n]; omega
theorem sumTo_sub (f g : Nat → Int) : ∀ n, sumTo n (fun j => f j - g j) = sumTo n f - sumTo n g
  | 0 => rfl
  | n + 1 => by simp only [sumTo]; rw [sumTo_sub f g n]; omega
theorem sumTo_zero : ∀ n, sumTo n (fun _ => 0) = 0
  | 0 => rfl
  | n + 1 => by simp only [sumTo]; rw [sumTo_zero n]; rfl
theorem sumTo_one (f : Nat → Int) (k : Nat) (x : Int) : ∀ n, k < n → sumTo n (upd f k x) = sumTo n f + (x - f k)
  | 0, h => by omega
  | n + 1, h => by
    simp only [sumTo]
    by_cases hk : k = n
    · subst hk
      have e : sumTo k (upd f k x) = sumTo k f := sumTo_congr k fun j hj => upd_ne f x (show j ≠ k by omega)
      rw [upd_same, e]; omega
    · rw [sumTo_one f k x n (by omega), upd_ne f x (show n ≠ k by omega)]; omega
theorem sumTo_nonneg {f : Nat → Int} : ∀ n, (∀ j, j < n → 0 ≤ f j) → 0 ≤ sumTo n f
  | 0, _ => by simp [sumTo]
  | n + 1, h => by simp only [sumTo]; have := sumTo_nonneg n fun j hj => h j (by omega); have := h n (by omega); omega
theorem sumTo_le {f g : Nat → Int} : ∀ n, (∀ j, j < n → f j ≤ g j) → sumTo n f ≤ sumTo n g
  | 0, _ => by simp [sumTo]
  | n + 1, h => by simp only [sumTo]; have := sumTo_le n fun j hj => h j (by omega); have := h n (by omega); omega
theorem sumTo_const (c : Int) : ∀ n : Nat, sumTo n (fun _ => c) = n * c
  | 0 => by simp [sumTo]
  | n + 1 => by simp only [sumTo]; rw [sumTo_const c n]; rw [Int.natCast_add, Int.add_mul]; omega

def opp (j : Nat) : Nat := if j % 2 = 0 then j + 1 else j - 1
theorem opp_opp (j : Nat) : opp (opp j) = j := by unfold opp; split <;> split <;> omega
theorem opp_lt {j n : Nat} (h : j < 2 * n) : opp j < 2 * n := by unfold opp; split <;> omega
theorem opp_half (j : Nat) : opp j / 2 = j / 2 := by unfold opp; split <;> omega
theorem opp_ne (j : Nat) : opp j ≠ j := by unfold opp; split <;> omega
theorem xor_opp : ∀ k, k < 400 → k ^^^ 1 = opp k := by decide +kernel
theorem xor1 {k : Nat} (h : k < 400) : IntKind.wrap .i64 ((BitVec.ofInt (IntKind.bits .i64) (k : Int) ^^^ BitVec.ofInt (IntKind.bits .i64) 1).toNat : Int) = (opp k : Int) := by
  rw [BitVec.toNat_xor, ofInt_nat (by omega), show (BitVec.ofInt (IntKind.bits .i64) (1 : Int)).toNat = 1 from ofInt_nat (x := 1) (by omega), xor_opp k h]
  have : opp k < 400 := opp_lt (n := 200) h
  exact wrap_i64 (by omega) (by omega)
theorem tail_opp (l : List ArcI) (j : Nat) (h : j < 2 * l.length) : tailOf l (opp j) = toOf l j ∧ toOf l (opp j) = tailOf l j := by
  unfold tailOf toOf
  rw [opp_half, List.getElem?_eq_getElem (show j / 2 < l.length by omega)]
  unfold opp
  by_cases h : j % 2 = 0
  · simp only [h, if_true]; rw [if_neg (by omega), if_neg (by omega)]; exact ⟨rfl, rfl⟩
  · simp only [h, if_false]; rw [if_pos (by omega), if_pos (by omega)]; exact ⟨rfl, rfl⟩
theorem tail_ok {N : Int} {l : List ArcI} (hok : ∀ x ∈ l, ArcI.ok N x) {j : Nat} (hj : j < 2 * l.length) : ∃ u : Nat, tailOf l j = u ∧ (u : Int) < N ∧ u ≠ toN l j ∧ j ∈ adjN l u := by
  obtain ⟨a, h1, h2⟩ := half_ok hok hj
  obtain ⟨f, t, hf, ht, h3, h4, h5⟩ := ok_nat h2
  have e1 : tailOf l j = if j % 2 = 0 then a.f else a.t := by unfold tailOf; rw [h1]
  have e2 : toOf l j = if j % 2 = 0 then a.t else a.f := by unfold toOf; rw [h1]
  by_cases h : j % 2 = 0
  · rw [if_pos h] at e1 e2
    have e3 : tailOf l j = (f : Int) := by rw [e1]; exact hf
    exact ⟨f, e3, h3, by unfold toN; omega, adjN_mem.2 ⟨hj, e3⟩⟩
  · rw [if_neg h] at e1 e2
    have e3 : tailOf l j = (t : Int) := by rw [e1]; exact ht
    exact ⟨t, e3, h4, by unfold toN; omega, adjN_mem.2 ⟨hj, e3⟩⟩

/-- What is left, added up at a place. -/
def atP (l : List ArcI) (left : Nat → Int) (p : Nat) : Int := sumTo (2 * l.length) fun j => if tailOf l j = p then left j else 0
theorem atP_upd (l : List ArcI) (left : Nat → Int) (k : Nat) (x : Int) (p : Nat) (hk : k < 2 * l.length) : atP l (upd left k x) p = atP l left p + (if tailOf l k = p then x - left k else 0) := by
  unfold atP
  have e : (fun j => if tailOf l j = p then upd left k x j else 0) = upd (fun j => if tailOf l j = p then left j else 0) k (if tailOf l k = p then x else 0) := by
    funext j
    rw [upd_at, upd_at]
    by_cases h : j = k
    · subst h; simp
    · simp [h]
  rw [e, sumTo_one _ _ _ _ hk]
  split <;> omega

structure ResOk (l : List ArcI) (left : Nat → Int) : Prop where
  pos : ∀ j, j < 2 * l.length → 0 ≤ left j
  sum : ∀ j, j < 2 * l.length → left j + left (opp j) = capOf l j + capOf l (opp j)
theorem cap_ok {N : Int} {l : List ArcI} (hok : ∀ x ∈ l, ArcI.ok N x) {j : Nat} (hj : j < 2 * l.length) : 0 ≤ capOf l j ∧ capOf l j ≤ 1000000000 := by
  obtain ⟨a, h1, _, _, _, h2, h3⟩ := half_ok hok hj
  have : capOf l j = if j % 2 = 0 then a.c else 0 := by unfold capOf; rw [h1]
  rw [this]; split <;> omega
theorem ResOk.start {N : Int} {l : List ArcI} (hok : ∀ x ∈ l, ArcI.ok N x) : ResOk l (capOf l) := ⟨fun j hj => (cap_ok hok hj).1, fun _ _ => rfl⟩
theorem ResOk.le {N : Int} {l : List ArcI} (hok : ∀ x ∈ l, ArcI.ok N x) {left : Nat → Int} (h : ResOk l left) {j : Nat} (hj : j < 2 * l.length) : 0 ≤ left j ∧ left j ≤ 2000000000 := by
  have h1 := h.pos j hj; have h2 := h.pos _ (opp_lt hj); have h3 := h.sum j hj
  have h4 := cap_ok hok hj; have h5 := cap_ok hok (opp_lt hj)
  omega

/-- x is pushed along j. -/
def pushed (left : Nat → Int) (j : Nat) (x : Int) : Nat → Int := upd (upd left j (left j - x)) (opp j) (left (opp j) + x)
theorem pushed_ok {l : List ArcI} {left : Nat → Int} (h : ResOk l left) {j : Nat} (hj : j < 2 * l.length) {x : Int} (h0 : 0 ≤ x) (hx : x ≤ left j) : ResOk l (pushed left j x) := by
  have hoj := opp_lt hj
  refine ⟨fun i hi => ?_, fun i hi => ?_⟩
  · unfold pushed
    rw [upd_at, upd_at]
    have := h.pos i hi; have := h.pos _ hoj
    split
    · omega
    · split <;> omega
  · have hs := h.sum i hi
    unfold pushed
    by_cases h1 : i = j
    · subst h1
      rw [upd_ne _ _ (Ne.symm (opp_ne i)), upd_same, upd_same]; omega
    · by_cases h2 : i = opp j
      · subst h2
        rw [upd_same, opp_opp, upd_ne _ _ (Ne.symm (opp_ne j)), upd_same]
        rw [opp_opp] at hs; omega
      · have h3 : opp i ≠ j := fun e => h2 (by rw [← e, opp_opp])
        have h4 : opp i ≠ opp j := fun e => h1 (by rw [← opp_opp i, e, opp_opp])
        rw [upd_ne _ _ h2, upd_ne _ _ h1, upd_ne _ _ h4, upd_ne _ _ h3]; exact hs
theorem pushed_at {l : List ArcI} {left : Nat → Int} {j : Nat} (hj : j < 2 * l.length) (x : Int) (p : Nat) :
    atP l (pushed left j x) p = atP l left p - (if tailOf l j = p then x else 0) + (if toOf l j = p then x else 0) := by
  unfold pushed
  rw [atP_upd _ _ _ _ _ (opp_lt hj), atP_upd _ _ _ _ _ hj, (tail_opp l j hj).1, upd_ne _ _ (opp_ne j)]
  split <;> split <;> omega

/-- What a push from u to t of x turns. -/
structure Push (l : List ArcI) (lev : Nat → Int) (left left' : Nat → Int) (u t : Nat) (x : Int) : Prop where
  ok : ResOk l left'
  sum : ∀ p, atP l left' p = atP l left p - (if u = p then x else 0) + (if t = p then x else 0)
  low : ∀ j p, j ∈ adjN l p → lev p < lev u → left' j = left j
theorem Push.refl {l : List ArcI} {lev left : Nat → Int} (h : ResOk l left) (u : Nat) (x : Int) : Push l lev left left u u x := ⟨h, fun p => by split <;> omega, fun _ _ _ _ => rfl⟩
theorem Push.none {l : List ArcI} {lev left : Nat → Int} (h : ResOk l left) (u t : Nat) : Push l lev left left u t 0 := ⟨h, fun p => by split <;> split <;> omega, fun _ _ _ _ => rfl⟩
theorem Push.step {N : Int} {l : List ArcI} (hok : ∀ x ∈ l, ArcI.ok N x) {lev left left' : Nat → Int} {u t j : Nat} {x : Int} (hj : j ∈ adjN l u) (hl : lev (toN l j) = lev u + 1) (h0 : 0 ≤ x) (hx : x ≤ left j) (h : Push l lev left left' (toN l j) t x) :
    Push l lev left (pushed left' j x) u t x := by
  obtain ⟨hj1, hj2⟩ := adjN_mem.1 hj
  have hlj : left' j = left j := h.low j u hj (by omega)
  obtain ⟨ht1, _⟩ := toN_eq hok hj1
  refine ⟨pushed_ok h.ok hj1 h0 (by rw [hlj]; exact hx), fun p => ?_, fun i p hi hp => ?_⟩
  · rw [pushed_at hj1, h.sum, hj2, ht1]
    by_cases h1 : u = p <;> by_cases h2 : toN l j = p <;> by_cases h3 : t = p <;> simp [h1, h2, h3] <;> omega
  · obtain ⟨hi1, hi2⟩ := adjN_mem.1 hi
    unfold pushed
    have n1 : i ≠ j := by
      rintro rfl
      have : (u : Int) = p := hj2.symm.trans hi2
      have : u = p := by omega
      subst this; omega
    have n2 : i ≠ opp j := by
      rintro rfl
      rw [(tail_opp l j hj1).1, ht1] at hi2
      have : toN l j = p := by omega
      subst this; omega
    rw [upd_ne _ _ n2, upd_ne _ _ n1]
    exact h.low i p hi (by omega)

/-- What has been passed leads nowhere. -/
def Dead (l : List ArcI) (lev : Nat → Int) (t : Nat) (left : Nat → Int) (nx : Nat → Nat) : Prop :=
  ∀ p, p < 24 → ∀ i, i < nx p → ∀ j, (adjN l p)[i]? = some j → left j ≠ 0 → lev (toN l j) = lev p + 1 → toN l j ≠ t ∧ nx (toN l j) = (adjN l (toN l j)).length
theorem Dead.step {l : List ArcI} {lev : Nat → Int} {t : Nat} {left : Nat → Int} {nx : Nat → Nat} (h : Dead l lev t left nx) {u : Nat} (hu : nx u < (adjN l u).length)
    (hj : ∀ j, (adjN l u)[nx u]? = some j → left j ≠ 0 → lev (toN l j) = lev u + 1 → toN l j ≠ t ∧ nx (toN l j) = (adjN l (toN l j)).length) : Dead l lev t left (upd nx u (nx u + 1)) := by
  have key : ∀ q, q ≠ u → upd nx u (nx u + 1) q = nx q := fun q hq => upd_ne _ _ hq
  have fin : ∀ j, toN l j ≠ t ∧ nx (toN l j) = (adjN l (toN l j)).length → toN l j ≠ t ∧ upd nx u (nx u + 1) (toN l j) = (adjN l (toN l j)).length := fun j hh => by
    refine ⟨hh.1, ?_⟩
    rw [key _ (by rintro e; rw [e] at hh; omega)]; exact hh.2
  intro p hp i hi j hij h0 hl
  by_cases e : p = u
  · subst e
    rw [upd_same] at hi
    by_cases e2 : i = nx p
    · subst e2; exact fin j (hj j hij h0 hl)
    · exact fin j (h p hp i (by omega) j hij h0 hl)
  · rw [key p e] at hi
    exact fin j (h p hp i hi j hij h0 hl)
/-- A way by levels from s to t, and all that has been passed at s dead: there is none. -/
theorem Dead.none {N : Int} {l : List ArcI} {left : Nat → Int} {s t : Nat} {lev : Nat → Int} {nx : Nat → Nat} (hL : LevOk N l left s lev) (hs : s < 24) (ht : t < 24) (hst : s ≠ t) (h : Dead l lev t left nx) (hsn : nx s = (adjN l s).length) (hlt : 0 ≤ lev t) : False := by
  have key : ∀ (k : Nat) (p : Nat), p < 24 → lev p = k → nx p = (adjN l p).length ∧ p ≠ t := by
    intro k
    induction k with
    | zero =>
      intro p hp h0
      have := hL.zero p hp (by omega)
      subst this; exact ⟨hsn, hst⟩
    | succ k ih =>
      intro p hp h0
      obtain ⟨u, j, g1, g2, g3, g4, g5, g6⟩ := hL.pre p hp (by omega)
      obtain ⟨i1, _⟩ := ih u g1 (by omega)
      obtain ⟨i, hi, e⟩ := List.getElem_of_mem g4
      have := h u g1 i (by omega) j (by rw [List.getElem?_eq_getElem hi, e]) (by omega) (by rw [g6]; exact g3)
      rw [g6] at this
      exact ⟨this.2, this.1⟩
  exact (key (lev t).toNat t ht (by omega)).2 rfl
end Go.Proofs.Ytnhodgonmceojaa.Sh
