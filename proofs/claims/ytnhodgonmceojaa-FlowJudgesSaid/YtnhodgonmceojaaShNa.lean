/- For proofs by hand: slices, rows, loops over a function, numbers: what every chapter needs. -/
import Derived.Test.YtnhodgonmceojaaShEv
set_option linter.unusedVariables false
set_option linter.unusedSimpArgs false
namespace Go.Proofs.Ytnhodgonmceojaa.Sh
open Go.RowKit

structure Ints (m : Mem) (v : Value) (l : List Int) : Prop where
  len : ∃ a c, v = .slice a l.length c
  get : ∀ a n c, v = .slice (some a) n c → ∀ j x, l[j]? = some x → m.cell a.block (a.off + j) = some (.int .i64 x)
  nil : ∀ n c, v = .slice none n c → l = []
  lt : ∀ a n c, v = .slice (some a) n c → a.block < m.next
theorem Ints.mext {m m' : Mem} {v : Value} {l : List Int} (h : Ints m v l) (hm : Mext m m') : Ints m' v l :=
  ⟨h.len, fun a n c hv j x hx => by rw [hm.cell (h.lt a n c hv)]; exact h.get a n c hv j x hx, h.nil, fun a n c hv => Nat.lt_of_lt_of_le (h.lt a n c hv) hm.next⟩
theorem Ints.new {m : Mem} {v : Value} {l : List Int} (h : Ints m v l) (o : AObj) : Ints (m.new o) v l := h.mext ((Mext.refl m).new o)
/-- A slice made by appending alone, in a row of its own, made since m0. -/
def Acc (m0 m : Mem) (v : Value) (l : List (List Value)) (e : TypeId) (z : Nat) : Prop :=
  (v = .slice none 0 0 ∧ l = []) ∨ ∃ i, m0.next ≤ i ∧ i < m.next ∧ v = .slice (some ⟨i, 0, none⟩) l.length (big + l.length) ∧ m.get i = some (.cells l.flatten e z)
theorem flatten_len {z : Nat} : ∀ {l : List (List Value)}, (∀ x ∈ l, x.length = z) → l.flatten.length = l.length * z
  | [], _ => by simp
  | x :: r, h => by
    simp only [List.flatten_cons, List.length_append, List.length_cons]
    rw [flatten_len fun y hy => h y (by simp [hy]), h x (by simp), Nat.add_mul]; omega
theorem app1_acc {m0 m : Mem} {v : Value} {l : List (List Value)} {e : TypeId} {z bytes : Nat} {x : List Value} (h : Acc m0 m v l e z) (h0 : m0.next ≤ m.next) (hl : ∀ x ∈ l, x.length = z) (hx : x.length = z) (hok : x.all okCell = true) (hn : l.length < 1000000) (hb : bytes ≤ 1000) :
    ∃ v' m', appL e z bytes v 1 x m = some (v', m') ∧ Acc m0 m' v' (l ++ [x]) e z ∧ m'.next = m.next + 1 ∧ ∀ j, j < m.next → (∀ a n c, v = .slice (some a) n c → a.block ≠ j) → m'.get j = m.get j := by
  have hmb := maxLen_big
  have hml : (1000001 : Nat) ≤ maxLen := by unfold maxLen; omega
  have hbb : ∀ k, k ≤ 1000000 → k * bytes ≤ 140737488355328 := fun k hk => Nat.le_trans (Nat.mul_le_mul hk hb) (by omega)
  rcases h with ⟨rfl, rfl⟩ | ⟨i, h1, h2, rfl, h3⟩
  · refine ⟨.slice (some ⟨m.next, 0, none⟩) 1 (big + 1), m.new (.cells x e z), ?_, .inr ⟨m.next, h0, by rw [Mem.next_new]; omega, rfl, ?_⟩, by rw [Mem.next_new], fun j hj _ => Mem.get_new_ne _ _ (by omega)⟩
    · unfold appL
      rw [if_pos hok]
      simp only
      rw [if_neg (by omega), if_pos ⟨hbb 1 (by omega), by omega⟩]
    · rw [Mem.get_new]; simp
  · have hfl := flatten_len hl
    refine ⟨.slice (some ⟨m.next, 0, none⟩) (l.length + 1) (big + (l.length + 1)), (m.kill i).new (.cells (l.flatten ++ x) e z), ?_, .inr ⟨m.next, h0, by rw [Mem.next_new, Mem.next_kill]; omega, by simp, ?_⟩, by rw [Mem.next_new, Mem.next_kill], fun j hj hne => ?_⟩
    · unfold appL
      rw [if_pos hok]
      simp only [h3]
      rw [if_neg (by rw [if_neg (by omega)]; omega), if_pos ⟨by omega, hbb _ (by omega)⟩, if_neg (by omega), if_pos ⟨by rw [hfl]; simp, trivial, trivial⟩]
      simp
    · have := (m.kill i).get_new (.cells (l.flatten ++ x) e z)
      rw [Mem.next_kill] at this
      rw [this]; simp
    · rw [Mem.get_new_ne _ _ (by rw [Mem.next_kill]; omega), Mem.get_kill_ne _ _ (fun e => hne _ _ _ rfl e.symm)]
theorem bits_i64 : IntKind.bits .i64 = 64 := id rfl
theorem wrap_u64 {x : Int} (h1 : 0 ≤ x) (h2 : x < 18446744073709551616) : IntKind.wrap .u64 x = x := by
  have hb : IntKind.bits .u64 = 64 := rfl
  have hs : IntKind.signed .u64 = false := rfl
  unfold IntKind.wrap
  simp [hb, hs]; omega
def intCells (l : List Int) : List (List Value) := l.map fun x => [.int .i64 x]
theorem get_new_at (m : Mem) (o : AObj) (j : Nat) : (m.new o).get j = if j = m.next then some o else m.get j := by
  by_cases h : j = m.next
  · subst h; rw [Mem.get_new, if_pos rfl]
  · rw [Mem.get_new_ne _ _ h, if_neg h]
theorem get_set_at (m : Mem) (i : Nat) (o : AObj) (j : Nat) : (m.set i o).get j = if j = i then some o else m.get j := by
  by_cases h : j = i
  · subst h; rw [Mem.get_set, if_pos rfl]
  · rw [Mem.get_set_ne _ _ _ h, if_neg h]
theorem next_set (m : Mem) (i : Nat) (o : AObj) : (m.set i o).next = m.next := id rfl
theorem cell_of {m : Mem} {i o : Nat} {c : List Value} {t : TypeId} {z : Nat} (h : m.get i = some (.cells c t z)) : m.cell i o = c[o]? := by unfold Mem.cell Mem.row; rw [h]; rfl
theorem cells_of {m : Mem} {i o n : Nat} {c : List Value} {t : TypeId} {z : Nat} (h : m.get i = some (.cells c t z)) : m.cells i o n = if o + n ≤ c.length then some ((c.drop o).take n) else none := by unfold Mem.cells Mem.row; rw [h]; rfl
def rowG : AObj → Option (List Value)
  | .cells c _ _ => some c
  | .view c => some c
  | _ => none
def cellG (o : AObj) (k : Nat) : Option Value := (rowG o).bind (·[k]?)
def cellsG (o : AObj) (k n : Nat) : Option (List Value) := (rowG o).bind fun c => if k + n ≤ c.length then some ((c.drop k).take n) else none
theorem cellG_cells (c : List Value) (t : TypeId) (z k : Nat) : cellG (.cells c t z) k = c[k]? := id rfl
theorem cellsG_cells (c : List Value) (t : TypeId) (z k n : Nat) : cellsG (.cells c t z) k n = if k + n ≤ c.length then some ((c.drop k).take n) else none := id rfl
theorem row_of {m : Mem} {i : Nat} {o : AObj} (h : m.get i = some o) : m.row i = rowG o := by unfold Mem.row; rw [h]; cases o <;> rfl
theorem cell_new_at (m : Mem) (o : AObj) (j k : Nat) : (m.new o).cell j k = if j = m.next then cellG o k else m.cell j k := by
  by_cases h : j = m.next
  · subst h; unfold Mem.cell; rw [row_of (Mem.get_new m o), if_pos rfl]; rfl
  · rw [if_neg h]; unfold Mem.cell Mem.row; rw [Mem.get_new_ne _ _ h]
theorem cells_new_at (m : Mem) (o : AObj) (j k n : Nat) : (m.new o).cells j k n = if j = m.next then cellsG o k n else m.cells j k n := by
  by_cases h : j = m.next
  · subst h; unfold Mem.cells; rw [row_of (Mem.get_new m o), if_pos rfl]; rfl
  · rw [if_neg h]; unfold Mem.cells Mem.row; rw [Mem.get_new_ne _ _ h]
theorem cell_set_at (m : Mem) (i : Nat) (o : AObj) (j k : Nat) : (m.set i o).cell j k = if j = i then cellG o k else m.cell j k := by
  by_cases h : j = i
  · subst h; unfold Mem.cell; rw [row_of (Mem.get_set m j o), if_pos rfl]; rfl
  · rw [if_neg h]; unfold Mem.cell Mem.row; rw [Mem.get_set_ne _ _ _ h]
theorem cells_set_at (m : Mem) (i : Nat) (o : AObj) (j k n : Nat) : (m.set i o).cells j k n = if j = i then cellsG o k n else m.cells j k n := by
  by_cases h : j = i
  · subst h; unfold Mem.cells; rw [row_of (Mem.get_set m j o), if_pos rfl]; rfl
  · rw [if_neg h]; unfold Mem.cells Mem.row; rw [Mem.get_set_ne _ _ _ h]
theorem splice_nil (c : List Value) (o : Nat) : splice c o [] = c := id rfl
theorem splice_cons (c : List Value) (o : Nat) (v : Value) (r : List Value) : splice c o (v :: r) = splice (c.set o v) (o + 1) r := id rfl
theorem buildA_nil (c : List Value) : buildA c [] = some c := id rfl
theorem buildA_cons (c : List Value) (o n : Nat) (v : Value) (r : List (Nat × Nat × Value)) : buildA c ((o, n, v) :: r) = if okVal v = true ∧ v.cells.size = n ∧ o + n ≤ c.length then buildA (splice c o v.cells.toList) r else none := id rfl
theorem ne1 (a : Nat) : (a = a + 1) = False := eq_false (by omega)
theorem ne1' (a : Nat) : (a + 1 = a) = False := eq_false (by omega)
theorem ne2 (a : Nat) : (a = a + 1 + 1) = False := eq_false (by omega)
theorem ne2' (a : Nat) : (a + 1 + 1 = a) = False := eq_false (by omega)
theorem ne3 (a : Nat) : (a = a + 1 + 1 + 1) = False := eq_false (by omega)
theorem ne3' (a : Nat) : (a + 1 + 1 + 1 = a) = False := eq_false (by omega)
theorem cancel1 (a b : Nat) : (a + 1 = b + 1) = (a = b) := propext ⟨fun h => by omega, fun h => by omega⟩
theorem Acc.ok {m0 m : Mem} {v : Value} {l : List (List Value)} {e : TypeId} {z : Nat} (h : Acc m0 m v l e z) : okVal v = true ∧ v.cells = #[v] ∧ okCell v = true := by
  rcases h with ⟨rfl, _⟩ | ⟨i, _, _, rfl, _⟩ <;> exact ⟨rfl, rfl, rfl⟩
theorem Acc.off {m0 m : Mem} {v : Value} {l : List (List Value)} {e : TypeId} {z : Nat} (h : Acc m0 m v l e z) {j : Nat} (hj : j < m0.next) : ∀ a n c, v = .slice (some a) n c → a.block ≠ j := by
  intro a n c hv hb
  rcases h with ⟨rfl, _⟩ | ⟨i, h1, _, rfl, _⟩
  · cases hv
  · cases hv; simp at hb; omega
/-- Another row is turned. -/
theorem Acc.set {m0 m : Mem} {v : Value} {l : List (List Value)} {e : TypeId} {z : Nat} (h : Acc m0 m v l e z) {j : Nat} (hj : j < m0.next) (o : AObj) : Acc m0 (m.set j o) v l e z := by
  rcases h with h | ⟨i, h1, h2, h3, h4⟩
  · exact .inl h
  · exact .inr ⟨i, h1, h2, h3, by rw [Mem.get_set_ne _ _ _ (by omega)]; exact h4⟩
theorem Acc.base {m0 m1 m : Mem} {v : Value} {l : List (List Value)} {e : TypeId} {z : Nat} (h : Acc m0 m v l e z) (hle : m1.next ≤ m0.next) : Acc m1 m v l e z := by
  rcases h with h | ⟨i, h1, h2, h3, h4⟩
  · exact .inl h
  · exact .inr ⟨i, Nat.le_trans hle h1, h2, h3, h4⟩
theorem callK_yield {P : Program} {Γ : YEnv} {i : Nat} {args : List Value} {m : Mem} {K : Value → Mem → Prop} (h : Γ i args m K) : callK P Γ (.func (.yield i) #[] #[]) args m K := ⟨rfl, rfl, h⟩
theorem optK_mono {α : Type} {o : Option α} {k k' : α → Prop} (h : ∀ a, k a → k' a) (hk : optK o k) : optK o k' := by
  cases o with
  | none => exact hk
  | some a => exact h a hk
theorem opN_mono {c : Cx} (hΓ : YMono c.Γ) {o : SOp} {K K' : Fr → Mem → Prop} (hk : ∀ s m, K s m → K' s m) {s : Fr} {m : Mem} (h : opN c o K s m) : opN c o K' s m := by
  obtain ⟨d, op, g⟩ := o
  cases op with
  | lit e z len parts => exact optK_mono (fun a h => hk _ _ h) h
  | app1 e z bytes x t =>
    dsimp only [opN] at h ⊢
    generalize s t = sl at h ⊢
    cases sl with
    | val v => exact h
    | skip => exact h
    | lit k cs => exact ⟨h.1, optK_mono (fun a h => hk _ _ h) h.2⟩
  | call f args => exact callK_mono hΓ (fun v m' h => hk _ _ h) h
  | invoke r nm args => exact invK_mono (fun v m' h => hk _ _ h) h
  | _ =>
    dsimp only [opN] at h ⊢
    exact optK_mono (fun a h => hk _ _ h) h
theorem guardK_mono {x : Slot} {want : Bool} {A B A' B' : Prop} (ha : A → A') (hb : B → B') (h : guardK x want A B) : guardK x want A' B' := by
  unfold guardK at *
  split at h
  · split at h
    · rename_i e; rw [if_pos e]; exact ha h
    · rename_i e; rw [if_neg e]; exact hb h
  · exact hb h
  · exact h
theorem opsN_mono {c : Cx} (hΓ : YMono c.Γ) {K K' : Fr → Mem → Prop} (hk : ∀ s m, K s m → K' s m) : ∀ (ops : List SOp) (s : Fr) (m : Mem), opsN c ops K s m → opsN c ops K' s m
  | [], s, m, h => hk _ _ h
  | ⟨d, op, none⟩ :: r, s, m, h => opN_mono hΓ (fun s m h => opsN_mono hΓ hk r s m h) h
  | ⟨d, op, some (g, want)⟩ :: r, s, m, h => guardK_mono (fun h => opN_mono hΓ (fun s m h => opsN_mono hΓ hk r s m h) h) (fun h => opsN_mono hΓ hk r _ _ h) h
theorem wpTN_mono {c : Cx} (hΓ : YMono c.Γ) {K K' : Fr → Mem → Prop} (hk : ∀ s m, K s m → K' s m) : ∀ (t : Tr) (fl : FL) (s : Fr) (m : Mem), wpTN c K t fl s m → wpTN c K' t fl s m
  | .fin, fl, s, m, h => hk _ _ h
  | .q i f o t, fl, s, m, h => optK_mono (fun x h => wpTN_mono hΓ hk t _ _ _ h) h
  | .m i chk ⟨d, op, none⟩ t, fl, s, m, h => opN_mono hΓ (fun s m h => ⟨h.1, wpTN_mono hΓ hk t _ _ _ h.2⟩) h
  | .m i chk ⟨d, op, some (g, want)⟩ t, fl, s, m, h => guardK_mono (fun h => opN_mono hΓ (fun s m h => ⟨h.1, wpTN_mono hΓ hk t _ _ _ h.2⟩) h) (fun h => ⟨h.1, wpTN_mono hΓ hk t _ _ _ h.2⟩) h
  | .alt x y, fl, s, m, h => ⟨wpTN_mono hΓ hk x _ _ _ h.1, wpTN_mono hΓ hk y _ _ _ h.2⟩
theorem wpN_mono {P : Program} {G : List Tmp} : ∀ (x : S) {Γ : YEnv} (hΓ : YMono Γ) {Q Q' : KQ} (hq : ∀ e s m, Q e s m → Q' e s m) (s : Fr) (m : Mem), wpN P G x Γ Q s m → wpN P G x Γ Q' s m
  | .skip, Γ, hΓ, Q, Q', hq, s, m, h => hq _ _ _ h
  | .reg ops, Γ, hΓ, Q, Q', hq, s, m, h => opsN_mono (c := ⟨P, G, Γ⟩) hΓ (fun s m h => hq _ _ _ h) ops s m h
  | .regD t, Γ, hΓ, Q, Q', hq, s, m, h => wpTN_mono (c := ⟨P, G, Γ⟩) hΓ (fun s m h => hq _ _ _ h) t [] s m h
  | .seq x y, Γ, hΓ, Q, Q', hq, s, m, h => wpN_mono x hΓ (fun e s m h => by
    cases e <;> first | exact wpN_mono y hΓ hq _ _ h | exact hq _ _ _ h) s m h
  | .cond o x y, Γ, hΓ, Q, Q', hq, s, m, h => by
    simp only [wpN, condK] at h ⊢
    split at h
    · exact ⟨fun e => wpN_mono x hΓ hq _ _ (h.1 e), fun e => wpN_mono y hΓ hq _ _ (h.2 e)⟩
    · exact h.elim
  | .block id x, Γ, hΓ, Q, Q', hq, s, m, h => wpN_mono x hΓ (fun e s m h => by
    cases e with
    | exit i =>
      dsimp only at h ⊢
      split at h
      · rename_i e; rw [if_pos e]; exact hq _ _ _ h
      · rename_i e; rw [if_neg e]; exact hq _ _ _ h
    | _ => exact hq _ _ _ h) s m h
  | .scope x, Γ, hΓ, Q, Q', hq, s, m, h => wpN_mono x hΓ (fun e s m h => by cases e <;> first | exact hq _ _ _ h | exact h) s m h
  | .loop x, Γ, hΓ, Q, Q', hq, s, m, ⟨I, n, h0, h1⟩ => ⟨I, n, h0, fun n s m hI => wpN_mono x hΓ (fun e s m h => by cases e <;> first | exact h | exact hq _ _ _ h) s m (h1 n s m hI)⟩
  | .exit id, Γ, hΓ, Q, Q', hq, s, m, h => hq _ _ _ h
  | .ret, Γ, hΓ, Q, Q', hq, s, m, h => hq _ _ _ h
  | .rfunc f ps x y, Γ, hΓ, Q, Q', hq, s, m, ⟨g, first, cap, h1, h2⟩ => ⟨g, first, cap, h1, h2.mono fun v m' h => AfterR_mono hq _ _ _ h⟩
/-- A loop over a function. -/
theorem W_rfunc {c : Cx} (hΓ : YMono c.Γ) {f : Operand} {ps : List Tmp} {x y : S} {ks : List KI} {Q : KQ} {s : Fr} {m : Mem} (g : FuncId) (first cap : Array Value) (hf : evalO s f = .func (.func g) first cap)
    (H : ∀ Γ' : YEnv, YMono Γ' → (∀ args m' K, m'.get m.next = some (.loop .ready none) → args.length = ps.length →
        (∀ Q1 : KQ, (∀ s1 m1, W c y [] (RQ m.next K) s1 m1 → Q1 .normal s1 m1) → W c x [] Q1 (bindP ps args (vals s)) (m'.kill m.next)) → Γ' m.next args m' K) →
      ACalls c.P Γ' g (first.toList ++ [.func (.yield m.next) #[] #[]] ++ cap.toList) (m.new (.loop .ready none)) (fun _ m2 => m2.get m.next = some (.loop .ready none) ∧ We c .normal ks Q s (m2.kill m.next))) :
    W c (.rfunc f ps x y) ks Q s m := by
  refine ⟨g, first, cap, hf, ?_⟩
  refine (H _ (ext_mono hΓ fun args m' K K' hk ⟨h1, h2, h3⟩ => ?_) fun args m' K h1 h2 h3 => .inl ⟨rfl, h1, h2, h3 _ fun s1 m1 h => ⟨rfl, h⟩⟩).mono fun v m2 ⟨h1, h2⟩ => ?_
  · unfold AfterR; rw [h1]; exact h2
  · exact ⟨h1, h2, wpN_mono x hΓ (fun e s m ⟨he, h⟩ => ⟨he, wpN_mono y hΓ (RQ_mono hk) _ _ h⟩) _ _ h3⟩
/-- A turning operation in a tree: an operation like any other; what was read ahead stays. -/
theorem Wt_m {c : Cx} (hΓ : YMono c.Γ) {i : Nat} {chk : List Nat} {o : SOp} {t : Tr} {fl : FL} {ks : List KI} {Q : KQ} {s : Fr} {m : Mem} (hg : o.guard = none)
    (h : opN c o (fun s' m' => FlOk chk fl m m' ∧ Wt c t fl ks Q s' m') s m) : Wt c (.m i chk o t) fl ks Q s m := by
  obtain ⟨d, op, g⟩ := o
  cases hg
  exact h
theorem u64_range (x : Int) : 0 ≤ IntKind.wrap .u64 x ∧ IntKind.wrap .u64 x < 18446744073709551616 := by
  have hb : IntKind.bits .u64 = 64 := rfl
  have hs : IntKind.signed .u64 = false := rfl
  unfold IntKind.wrap
  simp [hb, hs]; omega
theorem tmod_range {a k : Int} (ha : 0 ≤ a) (hk : 0 < k) : 0 ≤ a.tmod k ∧ a.tmod k < k := by
  rw [Int.tmod_eq_emod_of_nonneg ha]
  exact ⟨Int.emod_nonneg _ (by omega), Int.emod_lt_of_pos _ hk⟩
theorem Acc.mext {m0 m m' : Mem} {v : Value} {l : List (List Value)} {e : TypeId} {z : Nat} (h : Acc m0 m v l e z) (hm : Mext m m') : Acc m0 m' v l e z := by
  rcases h with h | ⟨i, h1, h2, h3, h4⟩
  · exact .inl h
  · exact .inr ⟨i, h1, Nat.lt_of_lt_of_le h2 hm.next, h3, (hm.get i h2).trans h4⟩
/-- A number brought below k, as the program brings it. -/
def low (x k : Int) : Int := IntKind.wrap .i64 ((IntKind.wrap .u64 x).tmod k)
theorem low_range (x : Int) {k : Int} (hk : 0 < k) (hk2 : k ≤ 1000000000000) : 0 ≤ low x k ∧ low x k < k := by
  have h := tmod_range (u64_range x).1 hk
  unfold low
  rw [wrap_i64 (by omega) (by omega)]
  exact h
theorem Acc.ints {m0 m : Mem} {v : Value} {l : List Int} {t : TypeId} (h : Acc m0 m v (intCells l) t 1) : Ints m v l := by
  have hf : (intCells l).flatten = l.map (Value.int .i64) := by
    clear h
    unfold intCells
    induction l with
    | nil => rfl
    | cons a r ih => rw [List.map_cons, List.flatten_cons, ih]; rfl
  rcases h with ⟨rfl, hl⟩ | ⟨i, h1, h2, rfl, h3⟩
  · have : l = [] := by cases l with
      | nil => rfl
      | cons a r => simp [intCells] at hl
    subst this
    exact ⟨⟨none, 0, rfl⟩, fun a n c hv => (by cases hv), fun _ _ _ => rfl, fun a n c hv => (by cases hv)⟩
  · refine ⟨⟨some ⟨i, 0, none⟩, big + (intCells l).length, by simp [intCells]⟩, fun a n c hv j x hx => ?_, fun n c hv => (by cases hv), fun a n c hv => (by cases hv; exact h2)⟩
    cases hv
    rw [cell_of h3, hf]
    simp [hx]
theorem shl1 {n : Int} (h0 : 0 ≤ n) (h : n ≤ 24) : IntKind.wrap .i64 (1 * 2 ^ (min (IntKind.wrap .u64 n).toNat 64)) = 2 ^ n.toNat := by
  rw [wrap_u64 h0 (by omega)]
  have e : min n.toNat 64 = n.toNat := by omega
  rw [e, Int.one_mul]
  obtain ⟨k, rfl⟩ : ∃ k : Nat, n = k := ⟨n.toNat, by omega⟩
  rw [Int.toNat_natCast]
  have : (2 : Int) ^ k ≤ 2 ^ 24 := by
    have := Nat.pow_le_pow_right (n := 2) (by omega) (show k ≤ 24 by omega)
    have h2 : ((2 ^ k : Nat) : Int) ≤ ((2 ^ 24 : Nat) : Int) := by omega
    simpa using h2
  have h0 : (0 : Int) ≤ 2 ^ k := Int.le_of_lt (Int.pow_pos (by omega))
  exact wrap_i64 (by omega) (by omega)
def band (a b : Int) : Int := IntKind.wrap .i64 ((BitVec.ofInt (IntKind.bits .i64) a &&& BitVec.ofInt (IntKind.bits .i64) b).toNat : Int)
def bor (a b : Int) : Int := IntKind.wrap .i64 ((BitVec.ofInt (IntKind.bits .i64) a ||| BitVec.ofInt (IntKind.bits .i64) b).toNat : Int)
theorem callK_fn {P : Program} {Γ : YEnv} {g : FuncId} {args : List Value} {m : Mem} {K : Value → Mem → Prop} (h : ACalls P Γ g args m K) : callK P Γ (.func (.func g) #[] #[]) args m K := by
  rw [callK_func]; simpa using h
theorem ofInt_nat {x : Nat} (h : x < 9223372036854775808) : (BitVec.ofInt (IntKind.bits .i64) (x : Int)).toNat = x := by
  have : (BitVec.ofInt 64 (x : Int)).toNat = x := by
    rw [BitVec.toNat_ofInt]; omega
  exact this
theorem band_nat {x y : Nat} (hx : x < 9223372036854775808) (hy : y < 9223372036854775808) : band (x : Int) (y : Int) = ((x &&& y : Nat) : Int) := by
  unfold band
  rw [BitVec.toNat_and, ofInt_nat hx, ofInt_nat hy]
  have := Nat.and_le_left (n := x) (m := y)
  exact wrap_i64 (by omega) (by omega)
theorem bor_nat {x y : Nat} (hx : x < 9223372036854775808) (hy : y < 9223372036854775808) : bor (x : Int) (y : Int) = ((x ||| y : Nat) : Int) := by
  unfold bor
  rw [BitVec.toNat_or, ofInt_nat hx, ofInt_nat hy]
  have : x ||| y < 2 ^ 63 := Nat.or_lt_two_pow hx hy
  exact wrap_i64 (by omega) (by omega)
theorem band_mask (a : Int) {y : Nat} (hy : y < 9223372036854775808) : ∃ x : Nat, band a (y : Int) = (x : Int) ∧ x ≤ y := by
  unfold band
  rw [BitVec.toNat_and, ofInt_nat hy]
  have := Nat.and_le_right (n := (BitVec.ofInt (IntKind.bits .i64) a).toNat) (m := y)
  exact ⟨_, wrap_i64 (by omega) (by omega), this⟩
end Go.Proofs.Ytnhodgonmceojaa.Sh
