/- Regions: in the text's order, and with an order that is drawn. -/
import Derived.Test.YtnhodgonmceojaaShM
import Derived.OrdersIn
set_option linter.unusedVariables false
set_option linter.unusedSimpArgs false
namespace Go.Proofs.Ytnhodgonmceojaa.Sh
open Go.RowKit

section
variable {P : Program} {Γ : YEnv} {N h0 B : Nat} {r : Option Nat} {E : Env} {m : Mem} {w : World} {s : Fr} {a : Act}

theorem opG_wp {ops : Array Oper} {i : Nat} {o : Oper} {so : SOp} {K : Fr → Mem → Prop} {Kc : Act → World → Prop} {Q : Exit → Act → World → Prop} (hi : ops[i]? = some o) (hop : sopOf P N ops o = some so) (hS : St P Γ N h0 B r E m w s a)
    (hk : ∀ E' m' w' s' a', Evo E m w E' m' w' → St P Γ N h0 B r E' m' w' s' a' → K s' m' → Kc a' w') (h : opG P Γ so K s m) : wpOpIn (wideR r) 0 P ops Q i Kc a w := by
  unfold wpOpIn
  rw [hi]
  dsimp only
  unfold sopOf at hop
  split at hop
  · rename_i ao hao
    split at hop
    · rename_i hd
      split at hop
      · rename_i hg
        cases hop
        have hw : Region.wanted o (yielded ops a.tmps) = true := by simp [Region.wanted, hg]
        rw [if_pos hw]
        exact op_wp hao hS hd hk h
      · rename_i j b hg
        split at hop
        · rename_i g hgd
          cases hop
          simp only [opG] at h
          split at h
          · rename_i b' hb'
            have hy : yielded ops a.tmps j = some b' := by simp [yielded, hgd, hS.fr.guard hb']
            have hw : Region.wanted o (yielded ops a.tmps) = (b' == b) := by simp [Region.wanted, hg, hy]
            split at h
            · rename_i e
              rw [hw, if_pos (by simp [e])]
              exact op_wp hao hS hd hk h
            · rename_i e
              rw [hw, if_neg (by simp [e])]
              exact ⟨fun _ _ => trivial, hk _ _ _ _ _ (Evo.refl _ _ _) (hS.put hd (x := .skip) rfl) h⟩
          · rename_i hb'
            have hy : yielded ops a.tmps j = none := by
              have h1 := hS.fr.2 g
              rw [hb'] at h1
              have h1 : a.tmps.getD g undef = undef := h1
              rw [Array.getD_eq_getD_getElem?] at h1
              simp only [yielded, hgd, Option.bind_some]
              cases h3 : a.tmps[g]? with
              | none => rfl
              | some u => rw [h3] at h1; have h1 : u = undef := h1; subst h1; rfl
            have hw : Region.wanted o (yielded ops a.tmps) = false := by simp [Region.wanted, hg, hy]
            rw [hw, if_neg (by simp)]
            exact ⟨fun _ _ => trivial, hk _ _ _ _ _ (Evo.refl _ _ _) (hS.put hd (x := .skip) rfl) h⟩
          · exact h.elim
        · cases hop
    · cases hop
  · cases hop

def sopsAt (P : Program) (N : Nat) (ops : Array Oper) : List Nat → Option (List SOp)
  | [] => some []
  | i :: is => match (ops[i]?).bind (sopOf P N ops), sopsAt P N ops is with
    | some so, some r => some (so :: r)
    | _, _ => none

theorem wpOps_sound {ops : Array Oper} {Q : Exit → Act → World → Prop} {K : Fr → Mem → Prop} : ∀ (is : List Nat) (sops : List SOp) (E : Env) (m : Mem) (w : World) (s : Fr) (a : Act), sopsAt P N ops is = some sops → St P Γ N h0 B r E m w s a →
    (∀ E' m' w' s' a', Evo E m w E' m' w' → St P Γ N h0 B r E' m' w' s' a' → K s' m' → Q .normal a' w') → wpOps P Γ sops K s m → wpOpsIn (wideR r) 0 P ops Q is a w
  | [], sops, E, m, w, s, a, hs, hS, hk, h => by
    cases hs
    exact hk _ _ _ _ _ (Evo.refl _ _ _) hS h
  | i :: is, sops, E, m, w, s, a, hs, hS, hk, h => by
    simp only [sopsAt] at hs
    split at hs
    · rename_i so rs h1 h2
      cases hs
      obtain ⟨o, ho, hso⟩ := Option.bind_eq_some_iff.1 h1
      rw [wpOpsIn_cons]
      refine opG_wp ho hso hS ?_ h
      intro E' m' w' s' a' he hS' hK
      exact wpOps_sound is rs E' m' w' s' a' h2 hS' (fun E2 m2 w2 s2 a2 he2 => hk E2 m2 w2 s2 a2 (he.trans he2)) hK
    · cases hs

/-! ### Orders that are drawn -/
inductive Tr where
  | fin
  | q (i : Nat) (fl : Bool) (o : SOp) (t : Tr)
  | m (i : Nat) (chk : List Nat) (o : SOp) (t : Tr)
  | alt (x y : Tr)
inductive PT where
  | fin
  | q (i : Nat) (fl : Bool) (t : PT)
  | m (i : Nat) (chk : List Nat) (t : PT)
  | alt (x y : PT)

abbrev FL := List (Nat × (Mem → Option Slot))
def FlOk (chk : List Nat) (fl : FL) (m m' : Mem) : Prop := ∀ p ∈ fl, chk.contains p.1 = true → p.2 m' = p.2 m

def wpT (P : Program) (Γ : YEnv) (K : Fr → Mem → Prop) : Tr → FL → Fr → Mem → Prop
  | .fin, _, s, m => K s m
  | .q i f o t, fl, s, m => match qv P o s m with
    | some x => wpT P Γ K t (if f then (i, fun m => qv P o s m) :: fl else fl) (putO s o.dst x) m
    | none => False
  | .m i chk o t, fl, s, m => opG P Γ o (fun s' m' => FlOk chk fl m m' ∧ wpT P Γ K t fl s' m') s m
  | .alt x y, fl, s, m => wpT P Γ K x fl s m ∧ wpT P Γ K y fl s m

/-- A region: its operations, and what each comes behind. -/
structure Rg where
  so : List SOp
  pre : List (List Nat)
def Rg.o (g : Rg) (i : Nat) : Option SOp := g.so[i]?
def Rg.p (g : Rg) (i : Nat) : List Nat := g.pre.getD i []
def Rg.quiet (g : Rg) (i : Nat) : Bool := match g.o i with
  | some o => Nat.ble o.op.memA 1
  | none => false
def Rg.pure (g : Rg) (i : Nat) : Bool := match g.o i with
  | some o => Nat.beq o.op.memA 0
  | none => false

abbrev Dn := Nat → Bool
def Dn.add (A : Dn) (i : Nat) : Dn := fun j => Nat.beq j i || A j

def keys : PT → List Nat
  | .m i _ _ => [i]
  | .alt x y => keys x ++ keys y
  | _ => []

def Rg.inn (g : Rg) (A : Dn) (i : Nat) : Bool := (g.p i).all A
/-- What is left that does not turn the memory comes behind something left; what turns it and may come next is among the branches. -/
def Rg.covers (g : Rg) (A : Dn) (ks : List Nat) : Bool :=
  (List.range g.so.length).all fun y => A y || !g.inn A y || (!g.quiet y && ks.contains y)

def tok (g : Rg) : Dn → Bool → PT → Bool
  | A, top, .fin => top && (List.range g.so.length).all A
  | A, top, .q i f t => top && !A i && g.inn A i && g.quiet i && (f || g.pure i || (List.range g.so.length).all fun x => A x || g.quiet x || (g.p x).contains i) && tok g (A.add i) true t
  | A, top, .m i chk t => (!top || g.covers A [i]) && !A i && g.inn A i && !g.quiet i && (g.o i).isSome && ((List.range g.so.length).all fun y => !A y || !g.quiet y || g.pure y || (g.p i).contains y || chk.contains y) && tok g (A.add i) true t
  | A, top, .alt x y => (!top || g.covers A (keys x ++ keys y)) && tok g A false x && tok g A false y

def wpP (P : Program) (Γ : YEnv) (K : Fr → Mem → Prop) (g : Rg) : PT → FL → Fr → Mem → Prop
  | .fin, _, s, m => K s m
  | .q i f t, fl, s, m => ∃ o x, g.o i = some o ∧ qv P o s m = some x ∧ wpP P Γ K g t (if f then (i, fun m => qv P o s m) :: fl else fl) (putO s o.dst x) m
  | .m i chk t, fl, s, m => ∃ o, g.o i = some o ∧ opG P Γ o (fun s' m' => FlOk chk fl m m' ∧ wpP P Γ K g t fl s' m') s m
  | .alt x y, fl, s, m => wpP P Γ K g x fl s m ∧ wpP P Γ K g y fl s m

def fillT (g : Rg) : PT → Option Tr
  | .fin => some .fin
  | .q i f t => match g.o i, fillT g t with
    | some o, some t => some (.q i f o t)
    | _, _ => none
  | .m i chk t => match g.o i, fillT g t with
    | some o, some t => some (.m i chk o t)
    | _, _ => none
  | .alt x y => match fillT g x, fillT g y with
    | some x, some y => some (.alt x y)
    | _, _ => none

theorem wpP_of_wpT (hΓ : YMono Γ) {K : Fr → Mem → Prop} {g : Rg} : ∀ (t : PT) (tr : Tr) (fl : FL) (s : Fr) (m : Mem), fillT g t = some tr → wpT P Γ K tr fl s m → wpP P Γ K g t fl s m
  | .fin, tr, fl, s, m, h, hw => by cases h; exact hw
  | .q i f t, tr, fl, s, m, h, hw => by
    simp only [fillT] at h
    split at h
    · rename_i o t' h1 h2
      cases h
      simp only [wpT] at hw
      split at hw
      · rename_i x hx; exact ⟨o, x, h1, hx, wpP_of_wpT hΓ t t' _ _ _ h2 hw⟩
      · exact hw.elim
    · cases h
  | .m i chk t, tr, fl, s, m, h, hw => by
    simp only [fillT] at h
    split at h
    · rename_i o t' h1 h2
      cases h
      exact ⟨o, h1, opG_congr hΓ (fun _ _ => rfl) (fun x m' hk => ⟨hk.1, wpP_of_wpT hΓ t t' _ _ _ h2 hk.2⟩) hw⟩
    · cases h
  | .alt x y, tr, fl, s, m, h, hw => by
    simp only [fillT] at h
    split at h
    · rename_i x' y' h1 h2
      cases h
      exact ⟨wpP_of_wpT hΓ x x' _ _ _ h1 hw.1, wpP_of_wpT hΓ y y' _ _ _ h2 hw.2⟩
    · cases h

theorem wpP_fl (hΓ : YMono Γ) {K : Fr → Mem → Prop} {g : Rg} : ∀ (t : PT) (fl fl' : FL) (s : Fr) (m : Mem), (∀ p ∈ fl', p ∈ fl) → wpP P Γ K g t fl s m → wpP P Γ K g t fl' s m
  | .fin, fl, fl', s, m, h, hw => hw
  | .q i f t, fl, fl', s, m, h, hw => by
    obtain ⟨o, x, h1, h2, h3⟩ := hw
    refine ⟨o, x, h1, h2, wpP_fl hΓ t _ _ _ _ (fun p hp => ?_) h3⟩
    cases f with
    | true =>
      simp only [if_true, List.mem_cons] at hp ⊢
      exact hp.imp id (h p)
    | false => exact h p hp
  | .m i chk t, fl, fl', s, m, h, hw => by
    obtain ⟨o, h1, h2⟩ := hw
    exact ⟨o, h1, opG_congr hΓ (fun _ _ => rfl) (fun x m' hk => ⟨fun p hp => hk.1 p (h p hp), wpP_fl hΓ t _ _ _ _ h hk.2⟩) h2⟩
  | .alt x y, fl, fl', s, m, h, hw => ⟨wpP_fl hΓ x _ _ _ _ h hw.1, wpP_fl hΓ y _ _ _ _ h hw.2⟩

theorem Dn.add_self (A : Dn) (i : Nat) : A.add i i = true := by simp [Dn.add]
theorem Dn.add_mono {A : Dn} {j : Nat} (h : A j = true) (i : Nat) : A.add i j = true := by simp [Dn.add, h]
theorem Dn.add_ne {A : Dn} {i j : Nat} (h : j ≠ i) : A.add i j = A j := by simp [Dn.add, h]
theorem Dn.add_comm (A : Dn) (i j : Nat) : (A.add i).add j = (A.add j).add i := by
  funext k; simp only [Dn.add]; cases Nat.beq k i <;> cases Nat.beq k j <;> simp
theorem Rg.inn_mono {g : Rg} {A : Dn} {i : Nat} (h : g.inn A i = true) (j : Nat) : g.inn (A.add j) i = true := by
  unfold Rg.inn at *
  rw [List.all_eq_true] at *
  exact fun x hx => Dn.add_mono (h x hx) j

/-- Two operations that may change places. -/
def apartS (x y : SOp) : Bool :=
  (match x.dst with | some d => !y.reads.contains d | none => true) && (match y.dst with | some d => !x.reads.contains d | none => true) && (match x.dst, y.dst with | some d, some e => !Nat.beq d e | _, _ => true)
def Rg.apart (g : Rg) : Bool :=
  (List.range g.so.length).all fun i => (List.range g.so.length).all fun j => Nat.beq i j || (g.p i).contains j || (g.p j).contains i || (!g.quiet i && !g.quiet j) ||
    (match g.o i, g.o j with | some x, some y => apartS x y | _, _ => true)

theorem apartS_spec {x y : SOp} (h : apartS x y = true) : (∀ d, x.dst = some d → d ∉ y.reads) ∧ (∀ d, y.dst = some d → d ∉ x.reads) ∧ ∀ t, x.dst = some t → y.dst ≠ some t := by
  simp only [apartS, Bool.and_eq_true] at h
  obtain ⟨⟨h1, h2⟩, h3⟩ := h
  refine ⟨fun d hd => ?_, fun d hd => ?_, fun t hx hy => ?_⟩
  · rw [hd] at h1; simpa using h1
  · rw [hd] at h2; simpa using h2
  · rw [hx, hy] at h3; simp at h3

theorem Rg.lt {g : Rg} {i : Nat} {o : SOp} (h : g.o i = some o) : i < g.so.length := (List.getElem?_eq_some_iff.1 h).1
theorem Rg.apart_spec {g : Rg} (h : g.apart = true) {i j : Nat} {x y : SOp} (hi : g.o i = some x) (hj : g.o j = some y) (hne : i ≠ j) (h1 : j ∉ g.p i) (h2 : i ∉ g.p j) (hq : g.quiet i = true ∨ g.quiet j = true) : apartS x y = true := by
  have := List.all_eq_true.1 (List.all_eq_true.1 h i (List.mem_range.2 (Rg.lt hi))) j (List.mem_range.2 (Rg.lt hj))
  rw [hi, hj] at this
  simp only [Bool.or_eq_true, Bool.and_eq_true, Bool.not_eq_true'] at this
  rcases this with (((h | h) | h) | h) | h
  · exact absurd (Nat.eq_of_beq_eq_true h) hne
  · exact absurd (by simpa using h) h1
  · exact absurd (by simpa using h) h2
  · rcases hq with hq | hq
    · rw [hq] at h; cases h.1
    · rw [hq] at h; cases h.2
  · exact h

def takeQ (i : Nat) : PT → PT
  | .q j f t => if j = i then t else .q j f (takeQ i t)
  | t => t
def takeM (i : Nat) : PT → PT
  | .q j f t => .q j f (takeM i t)
  | .m _ _ t => t
  | .alt x y => if (keys x).contains i then takeM i x else takeM i y
  | .fin => .fin

theorem tok_front {g : Rg} : ∀ (t : PT) (A : Dn) (top : Bool), tok g A top t = true → (t = .fin ∧ top = true) ∨ ∃ i o, g.o i = some o ∧ A i = false ∧ g.inn A i = true
  | .fin, A, top, h => by simp only [tok, Bool.and_eq_true] at h; exact .inl ⟨rfl, h.1⟩
  | .q i f t, A, top, h => by
    simp only [tok, Bool.and_eq_true, Bool.not_eq_true'] at h
    obtain ⟨⟨⟨⟨⟨_, h1⟩, h2⟩, h3⟩, _⟩, _⟩ := h
    cases ho : g.o i with
    | none => simp [Rg.quiet, ho] at h3
    | some o => exact .inr ⟨i, o, ho, h1, h2⟩
  | .m i chk t, A, top, h => by
    simp only [tok, Bool.and_eq_true, Bool.not_eq_true'] at h
    obtain ⟨⟨⟨⟨⟨⟨_, h1⟩, h2⟩, _⟩, h3⟩, _⟩, _⟩ := h
    cases ho : g.o i with
    | none => simp [ho] at h3
    | some o => exact .inr ⟨i, o, ho, h1, h2⟩
  | .alt x y, A, top, h => by
    simp only [tok, Bool.and_eq_true] at h
    rcases tok_front x A false h.1.2 with ⟨_, h⟩ | h
    · cases h
    · exact .inr h

theorem takeQ_ok {K : Fr → Mem → Prop} {g : Rg} (hΓ : YMono Γ) (ha : g.apart = true) {i : Nat} {o : SOp} (ho : g.o i = some o) (hq : g.quiet i = true) : ∀ (t : PT) (A : Dn), tok g A true t = true → A i = false → g.inn A i = true →
    tok g (A.add i) true (takeQ i t) = true ∧ ∀ fl s m, wpP P Γ K g t fl s m → ∃ x, qv P o s m = some x ∧ wpP P Γ K g (takeQ i t) fl (putO s o.dst x) m
  | .fin, A, h, hi, hn => by
    simp only [tok, Bool.true_and] at h
    have := List.all_eq_true.1 h i (List.mem_range.2 (Rg.lt ho))
    rw [hi] at this; cases this
  | .q j f t, A, h, hi, hn => by
    simp only [tok, Bool.and_eq_true, Bool.not_eq_true'] at h
    obtain ⟨⟨⟨⟨⟨_, h1⟩, h2⟩, h3⟩, h4⟩, h5⟩ := h
    by_cases hji : j = i
    · subst hji
      simp only [takeQ, if_true]
      refine ⟨h5, fun fl s m hw => ?_⟩
      obtain ⟨o', x, e1, e2, e3⟩ := hw
      rw [ho] at e1; cases e1
      exact ⟨x, e2, wpP_fl hΓ t _ _ _ _ (fun p hp => by cases f <;> simp [hp]) e3⟩
    · have hij : i ≠ j := fun e => hji e.symm
      have hni : (A.add j) i = false := by rw [Dn.add_ne hij]; exact hi
      obtain ⟨k1, k2⟩ := takeQ_ok (K := K) hΓ ha ho hq t (A.add j) h5 hni (g.inn_mono hn j)
      simp only [takeQ, if_neg hji]
      refine ⟨?_, fun fl s m hw => ?_⟩
      · simp only [tok, Bool.and_eq_true, Bool.not_eq_true']
        refine ⟨⟨⟨⟨⟨trivial, by rw [Dn.add_ne hji]; exact h1⟩, g.inn_mono h2 i⟩, h3⟩, ?_⟩, by rw [Dn.add_comm]; exact k1⟩
        simp only [Bool.or_eq_true] at h4 ⊢
        refine h4.imp id fun h4 => ?_
        rw [List.all_eq_true] at *
        intro x hx
        have := h4 x hx
        simp only [Bool.or_eq_true] at this ⊢
        exact this.imp (fun h => h.imp (fun h => Dn.add_mono h i) id) id
      · obtain ⟨oj, v, e1, e2, e3⟩ := hw
        obtain ⟨x, e4, e5⟩ := k2 _ _ _ e3
        have hap := Rg.apart_spec ha ho e1 hij
          (fun hm => by have := List.all_eq_true.1 hn j hm; rw [h1] at this; cases this)
          (fun hm => by have := List.all_eq_true.1 h2 i hm; rw [hi] at this; cases this) (.inl hq)
        obtain ⟨p1, p2, p3⟩ := apartS_spec hap
        have q1 : qv P o s m = some x := by
          rw [← e4]; exact qv_congr (fun t ht => (putO_ne (fun e => p2 t e ht)).symm) m
        have q2 : ∀ m', qv P oj (putO s o.dst x) m' = qv P oj s m' := fun m' => qv_congr (fun t ht => putO_ne (fun e => p1 t e ht)) m'
        refine ⟨x, q1, oj, v, e1, (q2 m).trans e2, ?_⟩
        rw [putO_comm p3]
        simp only [q2]
        exact e5
  | .m j chk t, A, h, hi, hn => by
    simp only [tok, Bool.and_eq_true, Bool.not_true, Bool.false_or] at h
    have := List.all_eq_true.1 h.1.1.1.1.1.1 i (List.mem_range.2 (Rg.lt ho))
    simp [hi, hn, hq] at this
  | .alt x y, A, h, hi, hn => by
    simp only [tok, Bool.and_eq_true, Bool.not_true, Bool.false_or] at h
    have := List.all_eq_true.1 h.1.1 i (List.mem_range.2 (Rg.lt ho))
    simp [hi, hn, hq] at this

def ChkOk (g : Rg) (A : Dn) (i : Nat) (chk : List Nat) : Prop := ∀ y o, g.o y = some o → A y = true → g.quiet y = true → g.pure y = false → y ∉ g.p i → chk.contains y = true

theorem takeM_key {K : Fr → Mem → Prop} {g : Rg} {i : Nat} {o : SOp} (ho : g.o i = some o) : ∀ (t : PT) (A : Dn) (top : Bool), tok g A top t = true → (keys t).contains i = true →
    ∃ chk, ChkOk g A i chk ∧ tok g (A.add i) true (takeM i t) = true ∧ ∀ fl s m, wpP P Γ K g t fl s m → opG P Γ o (fun s' m' => FlOk chk fl m m' ∧ wpP P Γ K g (takeM i t) fl s' m') s m
  | .fin, A, top, h, hk => by simp [keys] at hk
  | .q j f t, A, top, h, hk => by simp [keys] at hk
  | .m j chk t, A, top, h, hk => by
    simp only [tok, Bool.and_eq_true, Bool.not_eq_true'] at h
    obtain ⟨⟨_, h3⟩, h4⟩ := h
    have hij : i = j := by simpa [keys] using hk
    subst hij
    refine ⟨chk, fun y oy hy hA hqy hpy hny => ?_, h4, fun fl s m hw => ?_⟩
    · have := List.all_eq_true.1 h3 y (List.mem_range.2 (Rg.lt hy))
      simpa [hA, hqy, hpy, hny] using this
    · obtain ⟨o', e1, e2⟩ := hw
      rw [ho] at e1; cases e1
      exact e2
  | .alt x y, A, top, h, hk => by
    simp only [tok, Bool.and_eq_true] at h
    simp only [takeM]
    by_cases hx : (keys x).contains i = true
    · rw [if_pos hx]
      obtain ⟨chk, k1, k2, k3⟩ := takeM_key (K := K) ho x A false h.1.2 hx
      exact ⟨chk, k1, k2, fun fl s m hw => k3 fl s m hw.1⟩
    · rw [if_neg hx]
      have hy : (keys y).contains i = true := by
        simp only [keys, List.contains_iff_mem, List.mem_append] at hk hx ⊢
        exact hk.resolve_left hx
      obtain ⟨chk, k1, k2, k3⟩ := takeM_key (K := K) ho y A false h.2 hy
      exact ⟨chk, k1, k2, fun fl s m hw => k3 fl s m hw.2⟩

theorem takeM_ok {K : Fr → Mem → Prop} {g : Rg} (hΓ : YMono Γ) (ha : g.apart = true) {i : Nat} {o : SOp} (ho : g.o i = some o) (hq : g.quiet i = false) : ∀ (t : PT) (A : Dn), tok g A true t = true → A i = false → g.inn A i = true →
    ∃ chk, ChkOk g A i chk ∧ tok g (A.add i) true (takeM i t) = true ∧ ∀ fl s m, wpP P Γ K g t fl s m → opG P Γ o (fun s' m' => FlOk chk fl m m' ∧ wpP P Γ K g (takeM i t) fl s' m') s m
  | .fin, A, h, hi, hn => by
    simp only [tok, Bool.true_and] at h
    have := List.all_eq_true.1 h i (List.mem_range.2 (Rg.lt ho))
    rw [hi] at this; cases this
  | .m j chk t, A, h, hi, hn => by
    refine takeM_key ho _ A true h ?_
    simp only [tok, Bool.and_eq_true, Bool.not_true, Bool.false_or] at h
    have := List.all_eq_true.1 h.1.1.1.1.1.1 i (List.mem_range.2 (Rg.lt ho))
    simpa [hi, hn, hq, keys] using this
  | .alt x y, A, h, hi, hn => by
    refine takeM_key ho _ A true h ?_
    simp only [tok, Bool.and_eq_true, Bool.not_true, Bool.false_or] at h
    have := List.all_eq_true.1 h.1.1 i (List.mem_range.2 (Rg.lt ho))
    simpa [hi, hn, hq, keys] using this
  | .q j f t, A, h, hi, hn => by
    simp only [tok, Bool.and_eq_true, Bool.not_eq_true'] at h
    obtain ⟨⟨⟨⟨⟨_, h1⟩, h2⟩, h3⟩, h4⟩, h5⟩ := h
    have hij : i ≠ j := fun e => by subst e; rw [hq] at h3; cases h3
    have hji : j ≠ i := fun e => hij e.symm
    have hni : (A.add j) i = false := by rw [Dn.add_ne hij]; exact hi
    obtain ⟨chk, c1, k1, k2⟩ := takeM_ok (K := K) hΓ ha ho hq t (A.add j) h5 hni (g.inn_mono hn j)
    have hnj : j ∉ g.p i := fun hm => by have := List.all_eq_true.1 hn j hm; rw [h1] at this; cases this
    refine ⟨chk, fun y oy hy hA => c1 y oy hy (Dn.add_mono hA j), ?_, fun fl s m hw => ?_⟩
    · simp only [takeM, tok, Bool.and_eq_true, Bool.not_eq_true']
      refine ⟨⟨⟨⟨⟨trivial, by rw [Dn.add_ne hji]; exact h1⟩, g.inn_mono h2 i⟩, h3⟩, ?_⟩, by rw [Dn.add_comm]; exact k1⟩
      simp only [Bool.or_eq_true] at h4 ⊢
      refine h4.imp id fun h4 => ?_
      rw [List.all_eq_true] at *
      intro x hx
      have := h4 x hx
      simp only [Bool.or_eq_true] at this ⊢
      exact this.imp (fun h => h.imp (fun h => Dn.add_mono h i) id) id
    · obtain ⟨oj, v, e1, e2, e3⟩ := hw
      have hap := Rg.apart_spec ha ho e1 hij hnj
        (fun hm => by have := List.all_eq_true.1 h2 i hm; rw [hi] at this; cases this) (.inr h3)
      obtain ⟨p1, p2, p3⟩ := apartS_spec hap
      have k := k2 _ _ _ e3
      refine opG_congr hΓ (fun t ht => putO_ne (fun e => p2 t e ht)) (fun x m' hk => ?_) k
      obtain ⟨f1, f2⟩ := hk
      have q2 : ∀ m', qv P oj (putO s o.dst x) m' = qv P oj s m' := fun m' => qv_congr (fun t ht => putO_ne (fun e => p1 t e ht)) m'
      have q3 : qv P oj s m' = some v := by
        rw [← e2]
        by_cases hp : g.pure j = true
        · have : oj.op.memA = 0 := by simpa [Rg.pure, e1] using hp
          exact qv_pure this s m' m
        · cases f with
          | true =>
            exact f1 (j, fun m => qv P oj s m) (by simp) (c1 j oj e1 (Dn.add_self A j) h3 (by simpa using hp) hnj)
          | false =>
            exfalso
            simp only [Bool.false_or, Bool.or_eq_true] at h4
            rcases h4 with h4 | h4
            · exact hp h4
            · have := List.all_eq_true.1 h4 i (List.mem_range.2 (Rg.lt ho))
              simp [hi, hq, hnj] at this
      refine ⟨fun p hp => f1 p (by cases f <;> simp [hp]), oj, v, e1, (q2 m').trans q3, ?_⟩
      rw [putO_comm p3]
      simp only [q2]
      exact f2
end
end Go.Proofs.Ytnhodgonmceojaa.Sh
