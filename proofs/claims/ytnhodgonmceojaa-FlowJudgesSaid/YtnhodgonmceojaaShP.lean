/- Code over the abstract memory: its form, what is to be shown of it. -/
import Derived.Test.YtnhodgonmceojaaShO
set_option linter.unusedVariables false
set_option linter.unusedSimpArgs false
namespace Go.Proofs.Ytnhodgonmceojaa.Sh
open Go.RowKit

inductive S where
  | skip
  | reg (ops : List SOp)
  | regD (t : Tr)
  | seq (x y : S)
  | cond (c : Operand) (x y : S)
  | block (id : Nat) (b : S)
  | scope (b : S)
  | loop (b : S)
  | exit (id : Nat)
  | ret
  | rfunc (f : Operand) (ps : List Tmp) (assign body : S)

/-! ### Compiled code -/
def union (xs ys : List Nat) : List Nat := ys.foldl (fun r y => if r.contains y then r else r ++ [y]) xs
def preOf (ops : List Oper) : List (List Nat) :=
  ops.foldl (fun pre o => pre ++ [(directs o).foldl (fun r e => union (union r [e]) (pre.getD e [])) []]) []
def plan (g : Rg) : Nat → Dn → PT
  | 0, _ => .fin
  | fuel + 1, A =>
    let n := List.range g.so.length
    match n.find? fun y => !A y && g.quiet y && g.inn A y with
    | some y => .q y (!g.pure y && n.any fun x => !A x && !g.quiet x && !(g.p x).contains y) (plan g fuel (A.add y))
    | none =>
      match n.filter fun x => !A x && g.inn A x with
      | [] => .fin
      | x :: xs =>
        let one := fun x => PT.m x (n.filter fun y => A y && g.quiet y && !g.pure y && !(g.p x).contains y) (plan g fuel (A.add x))
        xs.foldl (fun t y => .alt t (one y)) (one x)
def dn0 (n : Nat) : Dn := fun j => !Nat.blt j n

def compD (P : Program) (N : Nat) (ops : Array Oper) : Option Tr :=
  match sopsAt P N ops (List.range ops.size) with
  | some so =>
    let g : Rg := ⟨so, preOf ops.toList⟩
    let pt := plan g ops.size (dn0 ops.size)
    if g.apart && okPre g ops && tok g (dn0 ops.size) true pt && P.follows .mixedOrders then fillT g pt else none
  | none => none

def compC (P : Program) (N : Nat) : Code → Option S
  | .skip => some .skip
  | .label _ => some .skip
  | .region _ ops false => (sopsAt P N ops (List.range ops.size)).map .reg
  | .region _ ops true => (compD P N ops).map .regD
  | .seq x y => match compC P N x, compC P N y with
    | some a, some b => some (.seq a b)
    | _, _ => none
  | .cond c x y => match compC P N x, compC P N y with
    | some a, some b => some (.cond c a b)
    | _, _ => none
  | .block id x => (compC P N x).map (.block id)
  | .loop x => (compC P N x).map .loop
  | .scope x => (compC P N x).map .scope
  | .exit id => some (.exit id)
  | .ret => some .ret
  | .rangeFunc f ps x y => match compC P N x, compC P N y with
    | some a, some b => if ps.toList.all (· < N) then some (.rfunc f ps.toList a b) else none
    | _, _ => none
  | _ => none

/-! ### What is to be shown of code -/
def sem : List (Tmp × Slot) → Fr
  | [], _ => .val undef
  | (t, x) :: l, i => if i = t then x else sem l i
def lim (G : List Tmp) (s : Fr) : Fr := sem (G.map fun g => (g, s g))
theorem lim_or (G : List Tmp) (s : Fr) (i : Nat) : lim G s i = s i ∨ lim G s i = .val undef := by
  unfold lim
  induction G with
  | nil => exact .inr rfl
  | cons g G ih =>
    simp only [List.map_cons, sem]
    split
    · rename_i h; subst h; exact .inl rfl
    · exact ih

/-- Parameters are given arguments. -/
def bindP : List Tmp → List Value → Fr → Fr
  | p :: ps, v :: vs, s => bindP ps vs (putO s (some p) (.val v))
  | _, _, s => s

/-- A frame that a round begins with. -/
def vals (s : Fr) : Fr := fun i => .val (s i).v

def ext (Γ : YEnv) (i : Nat) (R : List Value → Mem → (Value → Mem → Prop) → Prop) : YEnv := fun j args m K => (j = i ∧ R args m K) ∨ (j < i ∧ Γ j args m K)

/-- How a round ends. -/
def RQ (i : Nat) (K : Value → Mem → Prop) : Exit → Fr → Mem → Prop
  | .normal, _, m => K (.bool true) (m.set i (.loop .ready none))
  | .ret, _, m => K (.bool false) (m.set i (.loop .done (some .ret)))
  | .exit id, _, m => K (.bool false) (m.set i (.loop .done (some (.exit id))))
  | _, _, _ => False
/-- How a loop over a function ends. -/
def AfterR (Q : Exit → Fr → Mem → Prop) (i : Nat) (s : Fr) (m : Mem) : Prop :=
  match m.get i with
  | some (.loop .busy _) => False
  | some (.loop _ none) => Q .normal s (m.kill i)
  | some (.loop _ (some .ret)) => Q .ret s (m.kill i)
  | some (.loop _ (some (.exit id))) => Q (.exit id) s (m.kill i)
  | _ => False

/-- Rows that are let go. -/
def kills : List Nat → Mem → Mem
  | [], m => m
  | k :: ks, m => kills ks (m.kill k)

def wpS (P : Program) (G : List Tmp) : S → YEnv → (Exit → Fr → Mem → Prop) → Fr → Mem → Prop
  | .skip, _, Q, s, m => Q .normal s m
  | .reg ops, Γ, Q, s, m => wpOps P Γ ops (fun s m => ∃ ks, Q .normal (lim G s) (kills ks m)) s m
  | .regD t, Γ, Q, s, m => wpT P Γ (fun s m => ∃ ks, Q .normal (lim G s) (kills ks m)) t [] s m
  | .seq x y, Γ, Q, s, m => wpS P G x Γ (fun e s m => match e with
    | .normal => wpS P G y Γ Q s m
    | e => Q e s m) s m
  | .cond c x y, Γ, Q, s, m => match evalO s c with
    | .bool b => (b = true → wpS P G x Γ Q s m) ∧ (b = false → wpS P G y Γ Q s m)
    | _ => False
  | .block id x, Γ, Q, s, m => wpS P G x Γ (fun e s m => match e with
    | .exit i => if i = id then Q .normal s m else Q (.exit i) s m
    | e => Q e s m) s m
  | .scope x, Γ, Q, s, m => wpS P G x Γ (fun e s m => match e with
    | .goto _ => False
    | e => Q e s m) s m
  | .loop x, Γ, Q, s, m => ∃ (I : Nat → Fr → Mem → Prop) (n : Nat), I n s m ∧ ∀ n s m, I n s m → wpS P G x Γ (fun e s m => match e with
    | .normal => ∃ n', n' < n ∧ I n' s m
    | e => Q e s m) s m
  | .exit id, _, Q, s, m => Q (.exit id) s m
  | .ret, _, Q, s, m => Q .ret s m
  | .rfunc f ps x y, Γ, Q, s, m => ∃ g first cap, evalO s f = .func (.func g) first cap ∧
      ACalls P (ext Γ m.next fun args m' K => m'.get m.next = some (.loop .ready none) ∧ args.length = ps.length ∧
        wpS P G x Γ (fun e s1 m1 => e = .normal ∧ wpS P G y Γ (RQ m.next K) s1 m1) (bindP ps args (vals s)) (m'.kill m.next))
        g (first.toList ++ [.func (.yield m.next) #[] #[]] ++ cap.toList) (m.new (.loop .ready none)) (fun _ m2 => AfterR Q m.next s m2)

theorem RQ_mono {i : Nat} {K K' : Value → Mem → Prop} (hk : ∀ v m, K v m → K' v m) : ∀ e s m, RQ i K e s m → RQ i K' e s m := by
  intro e s m h
  cases e <;> first | exact hk _ _ h | exact h.elim
theorem AfterR_mono {Q Q' : Exit → Fr → Mem → Prop} (hq : ∀ e s m, Q e s m → Q' e s m) (i : Nat) (s : Fr) (m : Mem) (h : AfterR Q i s m) : AfterR Q' i s m := by
  unfold AfterR at *
  split at h <;> first | exact h.elim | exact hq _ _ _ h

section
variable {P : Program} {G : List Tmp}

theorem wpOps_mono {Γ : YEnv} (hΓ : YMono Γ) {K K' : Fr → Mem → Prop} (hk : ∀ s m, K s m → K' s m) : ∀ (ops : List SOp) (s : Fr) (m : Mem), wpOps P Γ ops K s m → wpOps P Γ ops K' s m
  | [], s, m, h => hk _ _ h
  | o :: r, s, m, h => opG_congr hΓ (fun _ _ => rfl) (fun x m' h => wpOps_mono hΓ hk r _ _ h) h
theorem wpT_mono {Γ : YEnv} (hΓ : YMono Γ) {K K' : Fr → Mem → Prop} (hk : ∀ s m, K s m → K' s m) : ∀ (t : Tr) (fl : FL) (s : Fr) (m : Mem), wpT P Γ K t fl s m → wpT P Γ K' t fl s m
  | .fin, fl, s, m, h => hk _ _ h
  | .q i f o t, fl, s, m, h => by
    simp only [wpT] at h ⊢
    split at h
    · exact wpT_mono hΓ hk t _ _ _ h
    · exact h.elim
  | .m i chk o t, fl, s, m, h => opG_congr hΓ (fun _ _ => rfl) (fun x m' h => ⟨h.1, wpT_mono hΓ hk t _ _ _ h.2⟩) h
  | .alt x y, fl, s, m, h => ⟨wpT_mono hΓ hk x _ _ _ h.1, wpT_mono hΓ hk y _ _ _ h.2⟩

theorem wpS_mono : ∀ (c : S) {Γ : YEnv} (hΓ : YMono Γ) {Q Q' : Exit → Fr → Mem → Prop} (hq : ∀ e s m, Q e s m → Q' e s m) (s : Fr) (m : Mem), wpS P G c Γ Q s m → wpS P G c Γ Q' s m
  | .skip, Γ, hΓ, Q, Q', hq, s, m, h => hq _ _ _ h
  | .reg ops, Γ, hΓ, Q, Q', hq, s, m, h => wpOps_mono hΓ (fun s m ⟨ks, h⟩ => ⟨ks, hq _ _ _ h⟩) ops s m h
  | .regD t, Γ, hΓ, Q, Q', hq, s, m, h => wpT_mono hΓ (fun s m ⟨ks, h⟩ => ⟨ks, hq _ _ _ h⟩) t [] s m h
  | .seq x y, Γ, hΓ, Q, Q', hq, s, m, h => wpS_mono x hΓ (fun e s m h => by
    cases e <;> first | exact wpS_mono y hΓ hq _ _ h | exact hq _ _ _ h) s m h
  | .cond c x y, Γ, hΓ, Q, Q', hq, s, m, h => by
    simp only [wpS] at h ⊢
    split at h
    · exact ⟨fun e => wpS_mono x hΓ hq _ _ (h.1 e), fun e => wpS_mono y hΓ hq _ _ (h.2 e)⟩
    · exact h.elim
  | .block id x, Γ, hΓ, Q, Q', hq, s, m, h => wpS_mono x hΓ (fun e s m h => by
    cases e with
    | exit i =>
      dsimp only at h ⊢
      split at h
      · rename_i e; rw [if_pos e]; exact hq _ _ _ h
      · rename_i e; rw [if_neg e]; exact hq _ _ _ h
    | _ => exact hq _ _ _ h) s m h
  | .scope x, Γ, hΓ, Q, Q', hq, s, m, h => wpS_mono x hΓ (fun e s m h => by cases e <;> first | exact hq _ _ _ h | exact h) s m h
  | .loop x, Γ, hΓ, Q, Q', hq, s, m, h => by
    obtain ⟨I, n, h0, h1⟩ := h
    exact ⟨I, n, h0, fun n s m hI => wpS_mono x hΓ (fun e s m h => by cases e <;> first | exact h | exact hq _ _ _ h) s m (h1 n s m hI)⟩
  | .exit id, Γ, hΓ, Q, Q', hq, s, m, h => hq _ _ _ h
  | .ret, Γ, hΓ, Q, Q', hq, s, m, h => hq _ _ _ h
  | .rfunc f ps x y, Γ, hΓ, Q, Q', hq, s, m, h => by
    obtain ⟨g, first, cap, h1, h2⟩ := h
    exact ⟨g, first, cap, h1, h2.mono fun v m' h => AfterR_mono hq _ _ _ h⟩

theorem ext_mono {Γ : YEnv} (hΓ : YMono Γ) {i : Nat} {R : List Value → Mem → (Value → Mem → Prop) → Prop} (hR : ∀ args m K K', (∀ v m', K v m' → K' v m') → R args m K → R args m K') : YMono (ext Γ i R) := by
  intro j args m K K' hk h
  rcases h with ⟨h1, h2⟩ | ⟨h1, h2⟩
  · exact .inl ⟨h1, hR _ _ _ _ hk h2⟩
  · exact .inr ⟨h1, hΓ _ _ _ _ _ hk h2⟩
end

/-! ### The meaning of it -/
def CQ (P : Program) (Γ : YEnv) (N h0 B : Nat) (r : Option Nat) (E0 : Env) (m0 : Mem) (w0 : World) (Q : Exit → Fr → Mem → Prop) (e : Exit) (a : Act) (w : World) : Prop :=
  ∃ E m s, Evo E0 m0 w0 E m w ∧ St P Γ N h0 B r E m w s a ∧ Q e s m
def Sound (P : Program) (N : Nat) (G : List Tmp) (c : Code) (sc : S) : Prop :=
  ∀ Γ, YMono Γ → ∀ Q s m, wpS P G sc Γ Q s m → ∀ h0 B r E w a, St P Γ N h0 B r E m w s a → c.wpIn (wideR r) 0 P (CQ P Γ N h0 B r E m w Q) a w

theorem CQ.from {P : Program} {Γ : YEnv} {N h0 B : Nat} {r : Option Nat} {E0 E1 : Env} {m0 m1 : Mem} {w0 w1 : World} {Q : Exit → Fr → Mem → Prop} {e : Exit} {a : Act} {w : World} (he : Evo E0 m0 w0 E1 m1 w1) (h : CQ P Γ N h0 B r E1 m1 w1 Q e a w) : CQ P Γ N h0 B r E0 m0 w0 Q e a w := by
  obtain ⟨E, m, s, h1, h2, h3⟩ := h
  exact ⟨E, m, s, he.trans h1, h2, h3⟩

theorem FR.lim {E : Env} {m : Mem} {w : World} {N : Nat} {s : Fr} {a : Act} (h : FR E m w N s a) (G : List Tmp) : FR E m w N (lim G s) a :=
  ⟨h.1, fun i => by
    rcases lim_or G s i with e | e
    · rw [e]; exact h.2 i
    · rw [e]; exact SlotOk.val (.junk _)⟩
theorem St.lim {P : Program} {Γ : YEnv} {N h0 B : Nat} {r : Option Nat} {E : Env} {m : Mem} {w : World} {s : Fr} {a : Act} (h : St P Γ N h0 B r E m w s a) (G : List Tmp) : St P Γ N h0 B r E m w (lim G s) a :=
  ⟨h.rel, h.yok, h.fr.lim G, h.defs, h.h0, h.rd⟩

theorem St.kills {P : Program} {Γ : YEnv} {N h0 B : Nat} {r : Option Nat} {E : Env} {w : World} {s : Fr} {a : Act} : ∀ (ks : List Nat) {m : Mem}, St P Γ N h0 B r E m w s a → Evo E m w E (Sh.kills ks m) w ∧ St P Γ N h0 B r E (Sh.kills ks m) w s a
  | [], m, h => ⟨Evo.refl _ _ _, h⟩
  | k :: ks, m, h => by
    obtain ⟨h1, h2⟩ := h.rel.kill k
    obtain ⟨h3, h4⟩ := St.kills ks (h.evo h2 h1)
    exact ⟨h2.trans h3, h4⟩

theorem sound_reg {P : Program} {N : Nat} {G : List Tmp} {id : Nat} {ops : Array Oper} {sops : List SOp} (h : sopsAt P N ops (List.range ops.size) = some sops) : Sound P N G (.region id ops false) (.reg sops) := by
  intro Γ hΓ Q s m hw h0 B r E w a hS
  refine wpIn_region (wpOps_sound _ _ E m w s a h hS ?_ hw)
  rintro E' m' w' s' a' he hS' ⟨ks, hK⟩
  obtain ⟨h1, h2⟩ := hS'.kills ks
  exact ⟨E', _, _, he.trans h1, h2.lim G, hK⟩

theorem sound_regD {P : Program} {N : Nat} {G : List Tmp} {id : Nat} {ops : Array Oper} {t : Tr} (h : compD P N ops = some t) : Sound P N G (.region id ops true) (.regD t) := by
  intro Γ hΓ Q s m hw h0 B r E w a hS
  unfold compD at h
  split at h
  · rename_i so hso
    dsimp only at h
    split at h
    · rename_i hc
      simp only [Bool.and_eq_true] at hc
      obtain ⟨⟨⟨c1, c2⟩, c3⟩, c4⟩ := hc
      have hlen : so.length = ops.size := by simpa using (sopsAt_get _ _ hso).1
      have hD : (fun j => (Array.replicate ops.size false).getD j true) = dn0 ops.size := by
        funext j
        unfold dn0
        rw [Array.getD_eq_getD_getElem?, Array.getElem?_replicate]
        by_cases hj : j < ops.size
        · rw [if_pos hj]; simp [Nat.blt_eq, hj]
        · rw [if_neg hj]
          have hb : Nat.blt j ops.size = false := by
            cases hb : Nat.blt j ops.size with
            | false => rfl
            | true => exact absurd (by simpa using hb) hj
          rw [hb]; rfl
      have he : Evo E m w E m w.drew := (Evo.refl E m w).drew
      have hS' : St P Γ N h0 B r E m w.drew s a := hS.evo he hS.rel.drew
      refine wpIn_region_any c4 (draws_sound (g := ⟨so, preOf ops.toList⟩) hΓ hso c1 c2 ops.size (Array.replicate ops.size false) _ [] E m w.drew s a (by simp) ?_ (by rw [hD]; exact c3) ?_ hS' ?_ (wpP_of_wpT hΓ _ _ _ _ _ h hw))
      · rw [hD]
        unfold cnt
        refine Nat.le_trans (List.countP_le_length ..) ?_
        simp [hlen]
      · intro e hlt hl
        rw [Array.getD_eq_getD_getElem?, Array.getElem?_replicate, if_pos (by rw [← hlen]; exact hlt)] at hl
        cases hl
      · rintro E' m' w' s' a' he' hS' ⟨ks, hK⟩
        obtain ⟨h1, h2⟩ := hS'.kills ks
        exact ⟨E', _, _, (he.trans he').trans h1, h2.lim G, hK⟩
    · cases h
  · cases h

end Go.Proofs.Ytnhodgonmceojaa.Sh
