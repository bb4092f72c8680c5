/- FlowSums: the plain law: cut sums are submodular. -/
import Derived.Test.YtnhodgonmceojaaFO
set_option linter.unusedVariables false
set_option linter.unusedSimpArgs false
namespace Go.Proofs.Ytnhodgonmceojaa.Sh
open Go.RowKit

theorem mem1_nat (x i : Nat) : mem1 (x : Int) i = x.testBit i := by
  unfold mem1
  have e : ((x : Int).fdiv (2 ^ i)).tmod 2 = ((x / 2 ^ i % 2 : Nat) : Int) := by
    have h2 : (2 : Int) ^ i = ((2 ^ i : Nat) : Int) := by simp
    rw [h2, Int.fdiv_eq_ediv_of_nonneg _ (Int.natCast_nonneg _), ← Int.natCast_ediv, Int.tmod_eq_emod_of_nonneg (Int.natCast_nonneg _), Int.natCast_emod]
    rfl
  rw [e, Nat.testBit_eq_decide_div_mod_eq]
  congr 1
  rw [eq_iff_iff]; omega
theorem members_mem (x n : Nat) (i : Int) : i ∈ members (x : Int) n ↔ ∃ k : Nat, i = k ∧ k < n ∧ x.testBit k = true := by
  unfold members
  simp only [List.mem_map, List.mem_filter, List.mem_range, mem1_nat]
  constructor
  · rintro ⟨k, ⟨h1, h2⟩, rfl⟩; exact ⟨k, rfl, h1, h2⟩
  · rintro ⟨k, rfl, h1, h2⟩; exact ⟨k, ⟨h1, h2⟩, rfl⟩

theorem rising_append (n : Int) (y : Int) : ∀ (l : List Int) (last : Int), rising n last l = true → (∀ x ∈ l, x < y) → last < y → y < n → rising n last (l ++ [y]) = true
  | [], last, h, hl, h1, h2 => by simp [rising, h1, h2]
  | x :: r, last, h, hl, h1, h2 => by
    simp only [rising, Bool.and_eq_true, decide_eq_true_eq, List.cons_append] at h ⊢
    exact ⟨h.1, rising_append n y r x h.2 (fun z hz => hl z (by simp [hz])) (hl x (by simp)) h2⟩
theorem members_lt (p : Int) (n : Nat) : ∀ x ∈ members p n, -1 < x ∧ x < n := by
  intro x hx
  unfold members at hx
  obtain ⟨k, h1, rfl⟩ := List.mem_map.1 hx
  have := List.mem_range.1 (List.mem_filter.1 h1).1
  omega
theorem members_rising (p : Int) (N : Int) : ∀ n : Nat, (n : Int) ≤ N → rising N (-1) (members p n) = true
  | 0, h => rfl
  | n + 1, h => by
    have ih := members_rising p N n (by omega)
    rw [members_succ]
    split
    · exact rising_append N n _ _ ih (fun x hx => (members_lt p n x hx).2) (by omega) (by omega)
    · exact ih

theorem capSum_sub (S T U V : List Int) (hU : ∀ x, x ∈ U ↔ x ∈ S ∨ x ∈ T) (hV : ∀ x, x ∈ V ↔ x ∈ S ∧ x ∈ T) : ∀ l : List ArcI, (∀ a ∈ l, 0 ≤ a.c) → capSum U l + capSum V l ≤ capSum S l + capSum T l
  | [], _ => by simp [capSum]
  | a :: r, h => by
    have ih := capSum_sub S T U V hU hV r fun b hb => h b (by simp [hb])
    have ha := h a (by simp)
    simp only [capSum, hU, hV]
    by_cases h1 : a.f ∈ S <;> by_cases h2 : a.f ∈ T <;> by_cases h3 : a.t ∈ S <;> by_cases h4 : a.t ∈ T <;> simp [h1, h2, h3, h4] <;> omega

theorem sums_law (a b N : Int) (l : List ArcI) (hN : 2 ≤ N) (hN2 : N ≤ 20) (hl : l.length ≤ 60) (hok : ∀ a ∈ l, ArcI.ok N a) : SumsOk N l (band a (2 ^ N.toNat - 1)) (band b (2 ^ N.toNat - 1)) := by
  obtain ⟨k, rfl⟩ : ∃ k : Nat, N = k := ⟨N.toNat, by omega⟩
  rw [Int.toNat_natCast]
  have hp : 2 ^ k ≤ 2 ^ 24 := Nat.pow_le_pow_right (by omega) (by omega)
  have h0 : 0 < 2 ^ k := Nat.pow_pos (by omega)
  have e : (2 : Int) ^ k - 1 = ((2 ^ k - 1 : Nat) : Int) := by rw [Int.natCast_sub (by omega)]; simp
  rw [e]
  obtain ⟨p, e1, h1⟩ := band_mask a (y := 2 ^ k - 1) (by omega)
  obtain ⟨q, e2, h2⟩ := band_mask b (y := 2 ^ k - 1) (by omega)
  rw [e1, e2]
  unfold SumsOk
  rw [band_nat (by omega) (by omega), bor_nat (by omega) (by omega), Int.toNat_natCast]
  have hnet : NetOk k l := ⟨hN, by omega, by omega, hok⟩
  have hcap : ∀ x : Nat, capRes k l (members (x : Int) k) = (capSum (members (x : Int) k) l, 0) := fun x => by
    unfold capRes
    rw [if_pos hnet, if_pos (members_rising _ _ _ (Int.le_refl _))]
  simp only [hcap, true_and]
  have hb : ∀ S, 0 ≤ capSum S l ∧ capSum S l ≤ l.length * 1000000000 := fun S => capSum_bound S l fun a ha => ⟨(hok a ha).2.2.2.1, (hok a ha).2.2.2.2⟩
  have b1 := hb (members (p : Int) k); have b2 := hb (members (q : Int) k); have b3 := hb (members ((p ||| q : Nat) : Int) k); have b4 := hb (members ((p &&& q : Nat) : Int) k)
  have key := capSum_sub (members (p : Int) k) (members (q : Int) k) (members ((p ||| q : Nat) : Int) k) (members ((p &&& q : Nat) : Int) k)
    (fun x => by
      simp only [members_mem, Nat.testBit_or, Bool.or_eq_true]
      constructor
      · rintro ⟨j, rfl, h, h1 | h1⟩
        · exact .inl ⟨j, rfl, h, h1⟩
        · exact .inr ⟨j, rfl, h, h1⟩
      · rintro (⟨j, rfl, h, h1⟩ | ⟨j, rfl, h, h1⟩)
        · exact ⟨j, rfl, h, .inl h1⟩
        · exact ⟨j, rfl, h, .inr h1⟩)
    (fun x => by
      simp only [members_mem, Nat.testBit_and, Bool.and_eq_true]
      constructor
      · rintro ⟨j, rfl, h, h1, h2⟩; exact ⟨⟨j, rfl, h, h1⟩, ⟨j, rfl, h, h2⟩⟩
      · rintro ⟨⟨j, rfl, h, h1⟩, ⟨j', e, h', h2⟩⟩
        have : j = j' := by omega
        subst this
        exact ⟨j, rfl, h, h1, h2⟩) l fun a ha => (hok a ha).2.2.2.1
  rw [wrap_i64 (by omega) (by omega), wrap_i64 (by omega) (by omega)]
  exact key
end Go.Proofs.Ytnhodgonmceojaa.Sh
