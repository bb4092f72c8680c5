/- A run of code over the abstract memory: code, calls, loops over functions; and that it is sound. -/
import Derived.Test.YtnhodgonmceojaaShU
set_option linter.unusedVariables false
set_option linter.unusedSimpArgs false
namespace Go.Proofs.Ytnhodgonmceojaa.Sh
open Go.RowKit

/-! ### Functions -/
structure XF where
  c : S
  G : List Tmp
  rs : List RV
  n : Nat
def FOk (P : Program) (g : FuncId) (x : XF) : Prop :=
  ∃ fn, P.funcs[g]? = some fn ∧ (fn.name == "runtime.NumGoroutine") = false ∧ fn.ntmps = x.n ∧ fn.body.bind (compC P x.n) = some x.c ∧ compR P fn.results.toList = some x.rs
theorem acalls_fok {P : Program} {Γ : YEnv} (hΓ : YMono Γ) {g : FuncId} {x : XF} (h : FOk P g x) {args : List Value} {m : Mem} {K : Value → Mem → Prop} (hlen : args.length ≤ x.n)
    (hw : wpS P x.G x.c Γ (FQ x.rs K) (argF args) m) : ACalls P Γ g args m K := by
  obtain ⟨fn, h1, h2, h3, h4, h5⟩ := h
  exact acalls_of' hΓ h1 h2 h3 h4 h5 hlen hw

/-! ### Loops over functions that are under way -/
inductive YX where
  | nil
  | cons (i : Nat) (ps : List Tmp) (a b : S) (G : List Tmp) (s : FX) (rest : YX)
def den (P : Program) : YX → YEnv
  | .nil => fun _ _ _ _ => False
  | .cons i ps a b G s rest => ext (den P rest) i fun args m' K => m'.get i = some (.loop .ready none) ∧ args.length = ps.length ∧
      wpS P G a (den P rest) (fun e s1 m1 => e = .normal ∧ wpS P G b (den P rest) (RQ i K) s1 m1) (bindP ps args (vals (sem s))) (m'.kill i)
theorem den_mono (P : Program) : ∀ Y : YX, YMono (den P Y)
  | .nil => fun _ _ _ _ _ _ h => h
  | .cons i ps a b G s rest => ext_mono (den_mono P rest) fun args m K K' hk ⟨h1, h2, h3⟩ =>
      ⟨h1, h2, wpS_mono a (den_mono P rest) (fun e s m h => ⟨h.1, wpS_mono b (den_mono P rest) (RQ_mono hk) _ _ h.2⟩) _ _ h3⟩

/-! ### Operations -/
abbrev CB := Value → List Value → MX → Option (Value × MX)
abbrev CI := Value → String → List Value → MX → Option (Value × MX)
def CBok (P : Program) (Γ : YEnv) (C : CB) : Prop := ∀ f args m v m', C f args m = some (v, m') → ∀ K : Value → Mem → Prop, K v (memOf m') → callK P Γ f args (memOf m) K
def CIok (P : Program) (Γ : YEnv) (C : CI) : Prop := ∀ f nm args m v m', C f nm args m = some (v, m') → ∀ K : Value → Mem → Prop, K v (memOf m') → invK P Γ f nm args (memOf m) K

section
variable (P : Program)
def execK (wk : Bool) (C : CB) (I : CI) (o : SOp) (s : FX) (m : MX) : Option (FX × MX) :=
  match o.op with
  | .lit e z len parts => (buildA (zeros P e len) (parts.map fun p => (p.1, p.2.1, evalO (sem s) p.2.2))).map fun cs => (putX s o.dst (.lit len cs), m)
  | .app1 e z bytes x t => match sem s t with
    | .lit k cs => if cs.length = k * z then if wk then (if appW z bytes (evalO (sem s) x) k cs (memOf m) = true then some (putX s o.dst (.val (.chan none)), m) else none)
      else (appX e z bytes (evalO (sem s) x) k cs m).map fun r => (putX s o.dst (.val r.1), r.2) else none
    | _ => none
  | .call f args => (C (evalO (sem s) f) (args.map (evalO (sem s))) m).map fun r => (putX s o.dst (.val r.1), r.2)
  | .invoke rc nm args => (I (evalO (sem s) rc) nm (args.map (evalO (sem s))) m).map fun r => (putX s o.dst (.val r.1), r.2)
  | ao => (stepX P ao (evalO (sem s)) m).map fun r => (putX s o.dst (.val r.1), r.2)
def execG (wk : Bool) (C : CB) (I : CI) (o : SOp) (s : FX) (m : MX) : Option (FX × MX) :=
  match o.guard with
  | none => execK P wk C I o s m
  | some (g, want) => match sem s g with
    | .val (.bool b) => if b = want then execK P wk C I o s m else some (putX s o.dst .skip, m)
    | .skip => some (putX s o.dst .skip, m)
    | _ => none
def execOps (C : CB) (I : CI) : List SOp → FX → MX → Option (FX × MX)
  | [], s, m => some (s, m)
  | o :: r, s, m => match execG P false C I o s m with
    | some (s, m) => execOps C I r s m
    | none => none

theorem execK_sound {P : Program} {Γ : YEnv} {C : CB} {I : CI} (hC : CBok P Γ C) (hI : CIok P Γ I) {wk : Bool} {o : SOp} {s s' : FX} {m m' : MX} (h : execK P wk C I o s m = some (s', m')) {K : Fr → Mem → Prop} (hK : K (sem s') (memOf m')) : opK P Γ o K (sem s) (memOf m) := by
  obtain ⟨d, op, g⟩ := o
  cases op with
  | lit e z len parts =>
    dsimp only [execK] at h
    dsimp only [opK]
    obtain ⟨cs, h1, h2⟩ := Option.map_eq_some_iff.1 h
    cases h2
    rw [h1]
    rw [sem_putX] at hK
    exact hK
  | app1 e z bytes x t =>
    dsimp only [execK] at h
    dsimp only [opK]
    split at h
    · rename_i k cs hl
      split at h
      · rename_i hlen
        simp only [hl]
        refine ⟨hlen, ?_⟩
        cases wk with
        | true =>
          simp only [if_true] at h
          split at h
          · rename_i hW
            cases h
            rw [sem_putX] at hK
            exact .inr ⟨hW, hK⟩
          · cases h
        | false =>
          obtain ⟨⟨v, m2⟩, h1, h2⟩ := Option.map_eq_some_iff.1 h
          cases h2
          simp only [appX_eq, h1, lift, Option.map_some]
          rw [sem_putX] at hK
          exact .inl hK
      · cases h
    · cases h
  | call f args =>
    dsimp only [execK] at h
    dsimp only [opK]
    obtain ⟨⟨v, m2⟩, h1, h2⟩ := Option.map_eq_some_iff.1 h
    cases h2
    rw [sem_putX] at hK
    exact hC _ _ _ v m2 h1 (fun v m' => K (putO (sem s) d (.val v)) m') hK
  | invoke rc nm args =>
    dsimp only [execK] at h
    dsimp only [opK]
    obtain ⟨⟨v, m2⟩, h1, h2⟩ := Option.map_eq_some_iff.1 h
    cases h2
    rw [sem_putX] at hK
    exact hI _ _ _ _ v m2 h1 (fun v m' => K (putO (sem s) d (.val v)) m') hK
  | _ =>
    dsimp only [execK] at h
    dsimp only [opK]
    obtain ⟨⟨v, m2⟩, h1, h2⟩ := Option.map_eq_some_iff.1 h
    cases h2
    rw [stepX_sound P h1]
    rw [sem_putX] at hK
    exact hK

theorem execG_sound {P : Program} {Γ : YEnv} {C : CB} {I : CI} (hC : CBok P Γ C) (hI : CIok P Γ I) {wk : Bool} {o : SOp} {s s' : FX} {m m' : MX} (h : execG P wk C I o s m = some (s', m')) {K : Fr → Mem → Prop} (hK : K (sem s') (memOf m')) : opG P Γ o K (sem s) (memOf m) := by
  unfold execG at h
  unfold opG
  cases hg : o.guard with
  | none =>
    rw [hg] at h
    exact execK_sound hC hI h hK
  | some gw =>
    obtain ⟨g, want⟩ := gw
    rw [hg] at h
    dsimp only at h ⊢
    split at h
    · rename_i b hb
      rw [hb]
      dsimp only
      split at h
      · rename_i e; rw [if_pos e]; exact execK_sound hC hI h hK
      · rename_i e
        rw [if_neg e]
        cases h
        rw [sem_putX] at hK
        exact hK
    · rename_i hb
      rw [hb]
      dsimp only
      cases h
      rw [sem_putX] at hK
      exact hK
    · cases h

theorem execOps_sound {P : Program} {Γ : YEnv} {C : CB} {I : CI} (hC : CBok P Γ C) (hI : CIok P Γ I) {K : Fr → Mem → Prop} : ∀ (ops : List SOp) (s s' : FX) (m m' : MX), execOps P C I ops s m = some (s', m') → K (sem s') (memOf m') → wpOps P Γ ops K (sem s) (memOf m)
  | [], s, s', m, m', h, hK => by cases h; exact hK
  | o :: r, s, s', m, m', h, hK => by
    simp only [execOps] at h
    split at h
    · rename_i s1 m1 h1
      exact execG_sound hC hI h1 (execOps_sound hC hI r s1 s' m1 m' h hK)
    · cases h

/-! ### Trees of orders -/
abbrev FLX := List (Nat × SOp × FX)
def flOf (fl : FLX) : FL := fl.map fun p => (p.1, fun m => qv P p.2.1 (sem p.2.2) m)
def slotEq : Option Slot → Option Slot → Bool
  | some (.val a), some (.val b) => valEq 100 a b
  | some (.lit n a), some (.lit k b) => Nat.beq n k && valEq.listEq 100 a b
  | some .skip, some .skip => true
  | none, none => true
  | _, _ => false
theorem slotEq_sound {a b : Option Slot} (h : slotEq a b = true) : a = b := by
  unfold slotEq at h
  split at h
  · rw [valEq_sound _ _ _ h]
  · simp only [Bool.and_eq_true] at h; rw [Nat.eq_of_beq_eq_true h.1, listEq_sound _ _ _ h.2]
  · rfl
  · rfl
  · cases h
def flOkX (chk : List Nat) (fl : FLX) (m m' : MX) : Bool := fl.all fun p => !chk.contains p.1 || slotEq (qv P p.2.1 (sem p.2.2) (memOf m')) (qv P p.2.1 (sem p.2.2) (memOf m))
def execT (wk : Nat → Bool) (C : CB) (I : CI) : Tr → FLX → FX → MX → Option (List (FX × MX))
  | .fin, _, s, m => some [(s, m)]
  | .q i f o t, fl, s, m => match qv P o (sem s) (memOf m) with
    | some x => execT wk C I t (if f then (i, o, s) :: fl else fl) (putX s o.dst x) m
    | none => none
  | .m i chk o t, fl, s, m => match execG P (wk i) C I o s m with
    | some (s', m') => if flOkX P chk fl m m' then execT wk C I t fl s' m' else none
    | none => none
  | .alt x y, fl, s, m => match execT wk C I x fl s m, execT wk C I y fl s m with
    | some a, some b => some (a ++ b)
    | _, _ => none

theorem execT_sound {P : Program} {Γ : YEnv} {wk : Nat → Bool} {C : CB} {I : CI} (hC : CBok P Γ C) (hI : CIok P Γ I) {K : Fr → Mem → Prop} : ∀ (t : Tr) (fl : FLX) (s : FX) (m : MX) (out : List (FX × MX)), execT P wk C I t fl s m = some out → (∀ p ∈ out, K (sem p.1) (memOf p.2)) →
    wpT P Γ K t (flOf P fl) (sem s) (memOf m)
  | .fin, fl, s, m, out, h, hK => by cases h; exact hK (s, m) (by simp)
  | .q i f o t, fl, s, m, out, h, hK => by
    simp only [execT] at h
    split at h
    · rename_i x hx
      have ih := execT_sound hC hI t _ _ _ _ h hK
      simp only [wpT, hx]
      rw [sem_putX] at ih
      cases f with
      | true => exact ih
      | false => exact ih
    · cases h
  | .m i chk o t, fl, s, m, out, h, hK => by
    simp only [execT] at h
    split at h
    · rename_i s' m' h1
      split at h
      · rename_i hf
        refine execG_sound hC hI h1 ⟨fun p hp hc => ?_, execT_sound hC hI t _ _ _ _ h hK⟩
        obtain ⟨q, hq, rfl⟩ := List.mem_map.1 hp
        have := List.all_eq_true.1 hf q hq
        dsimp only at hc
        rw [hc] at this
        exact slotEq_sound (by simpa using this)
      · cases h
    · cases h
  | .alt x y, fl, s, m, out, h, hK => by
    simp only [execT] at h
    split at h
    · rename_i a b h1 h2
      cases h
      exact ⟨execT_sound hC hI x _ _ _ _ h1 fun p hp => hK p (List.mem_append_left _ hp), execT_sound hC hI y _ _ _ _ h2 fun p hp => hK p (List.mem_append_right _ hp)⟩
    · cases h

def bsl : Tr → List Tmp
  | .fin => []
  | .q _ _ _ t => bsl t
  | .m _ _ o t => match o.op, o.dst with
    | .bslice _ _ _ _, some d => d :: bsl t
    | _, _ => bsl t
  | .alt x _ => bsl x
def limX (G : List Tmp) (s : FX) : FX := G.map fun g => (g, sem s g)
theorem sem_limX (G : List Tmp) (s : FX) : sem (limX G s) = lim G (sem s) := rfl
def killsX : List Nat → MX → MX
  | [], m => m
  | k :: ks, m => killsX ks (m.kill k)
theorem memOf_kills : ∀ (ks : List Nat) (m : MX), memOf (killsX ks m) = kills ks (memOf m)
  | [], m => rfl
  | k :: ks, m => by simp only [killsX, kills]; rw [memOf_kills ks, memOf_kill]
def blocksOf (D : List Tmp) (s : FX) : List Nat := D.filterMap fun d => match sem s d with
  | .val (.slice (some a) _ _) => some a.block
  | _ => none
def finX (G D : List Tmp) (p : FX × MX) : FX × MX := (limX G p.1, killsX (blocksOf D p.1) p.2)

def objEq : AObj → AObj → Bool
  | .cells c t z, .cells c' t' z' => Nat.beq t t' && Nat.beq z z' && valEq.listEq 10000 c c'
  | .view c, .view c' => valEq.listEq 10000 c c'
  | .map es, .map es' => valEq.listEq 10000 (es.map (·.1)) (es'.map (·.1)) && valEq.listEq 10000 (es.map (·.2)) (es'.map (·.2))
  | _, _ => false
theorem objEq_sound {a b : AObj} (h : objEq a b = true) : a = b := by
  unfold objEq at h
  split at h
  · simp only [Bool.and_eq_true] at h; rw [Nat.eq_of_beq_eq_true h.1.1, Nat.eq_of_beq_eq_true h.1.2, listEq_sound _ _ _ h.2]
  · rw [listEq_sound _ _ _ h]
  · rename_i es es'
    simp only [Bool.and_eq_true] at h
    have h1 := listEq_sound _ _ _ h.1
    have h2 := listEq_sound _ _ _ h.2
    have : es = es' := by
      have e1 : es = List.zip (es.map (·.1)) (es.map (·.2)) := by simp [List.zip_map', List.map_id']
      have e2 : es' = List.zip (es'.map (·.1)) (es'.map (·.2)) := by simp [List.zip_map', List.map_id']
      rw [e1, e2, h1, h2]
    rw [this]
  · cases h
def btEq : BT AObj → BT AObj → Bool
  | .leaf, .leaf => true
  | .node v l r, .node v' l' r' => (match v, v' with | none, none => true | some a, some b => objEq a b | _, _ => false) && btEq l l' && btEq r r'
  | _, _ => false
theorem btEq_sound : ∀ (a b : BT AObj), btEq a b = true → a = b
  | .leaf, .leaf, h => rfl
  | .leaf, .node v l r, h => by cases h
  | .node v l r, .leaf, h => by cases h
  | .node v l r, .node v' l' r', h => by
    simp only [btEq, Bool.and_eq_true] at h
    obtain ⟨⟨h1, h2⟩, h3⟩ := h
    rw [btEq_sound l l' h2, btEq_sound r r' h3]
    split at h1
    · rfl
    · rw [objEq_sound h1]
    · cases h1
def frEq : FX → FX → Bool
  | [], [] => true
  | (t, x) :: r, (t', x') :: r' => Nat.beq t t' && slotEq (some x) (some x') && frEq r r'
  | _, _ => false
theorem frEq_sound : ∀ (a b : FX), frEq a b = true → a = b
  | [], [], h => rfl
  | [], _ :: _, h => by cases h
  | _ :: _, [], h => by cases h
  | (t, x) :: r, (t', x') :: r', h => by
    simp only [frEq, Bool.and_eq_true] at h
    have := slotEq_sound h.1.2
    cases this
    rw [Nat.eq_of_beq_eq_true h.1.1, frEq_sound r r' h.2]
def sameX (p q : FX × MX) : Bool := frEq p.1 q.1 && Nat.beq p.2.next q.2.next && btEq p.2.t q.2.t
theorem sameX_sound {p q : FX × MX} (h : sameX p q = true) : p = q := by
  obtain ⟨s, ⟨t, n⟩⟩ := p
  obtain ⟨s', ⟨t', n'⟩⟩ := q
  simp only [sameX, Bool.and_eq_true] at h
  rw [frEq_sound _ _ h.1.1, Nat.eq_of_beq_eq_true h.1.2, btEq_sound _ _ h.2]

def execD1 (wk : Nat → Bool) (C : CB) (I : CI) (G : List Tmp) (t : Tr) (s : FX) (m : MX) : Option (FX × MX) :=
  match execT P wk C I t [] s m with
  | some [p] => some (limX G p.1, p.2)
  | some (p :: q :: r) =>
    let D := (bsl t).filter fun d => !G.contains d
    let x := finX G D p
    if sameX x (finX G D q) && r.all fun y => sameX x (finX G D y) then some x else none
  | _ => none
theorem execD1_sound {P : Program} {Γ : YEnv} {wk : Nat → Bool} {C : CB} {I : CI} (hC : CBok P Γ C) (hI : CIok P Γ I) {G : List Tmp} {t : Tr} {s s' : FX} {m m' : MX} (h : execD1 P wk C I G t s m = some (s', m')) {Q : Exit → Fr → Mem → Prop} (hQ : Q .normal (sem s') (memOf m')) : wpS P G (.regD t) Γ Q (sem s) (memOf m) := by
  unfold execD1 at h
  split at h
  · rename_i p hp
    cases h
    exact execT_sound hC hI t [] s m _ hp fun q hq => by
      have : q = p := by simpa using hq
      subst this
      exact ⟨[], hQ⟩
  · rename_i p q r hp
    dsimp only at h
    split at h
    · rename_i hs
      simp only [Bool.and_eq_true] at hs
      have hx : ∀ y ∈ p :: q :: r, finX G ((bsl t).filter fun d => !G.contains d) y = (s', m') := by
        intro y hy
        rcases List.mem_cons.1 hy with rfl | hy
        · exact Option.some.inj h
        · have h0 := Option.some.inj h
          rcases List.mem_cons.1 hy with rfl | hy
          · rw [← sameX_sound hs.1]; exact h0
          · rw [← sameX_sound (List.all_eq_true.1 hs.2 y hy)]; exact h0
      refine execT_sound hC hI t [] s m _ hp fun y hy => ⟨blocksOf ((bsl t).filter fun d => !G.contains d) y.1, ?_⟩
      have := hx y hy
      unfold finX at this
      have h1 := congrArg Prod.fst this
      have h2 := congrArg Prod.snd this
      dsimp only at h1 h2
      rw [← memOf_kills, h2, ← sem_limX, h1]
      exact hQ
    · cases h
  · cases h
/-- The appends of a tree. -/
def app1s : Tr → List Nat
  | .fin => []
  | .q _ _ _ t => app1s t
  | .m i _ o t => match o.op with
    | .app1 _ _ _ _ _ => i :: app1s t
    | _ => app1s t
  | .alt x _ => app1s x
def tryX (P : Program) (C : CB) (I : CI) (G : List Tmp) (t : Tr) (s : FX) (m : MX) : List Nat → Option (FX × MX)
  | [] => none
  | i :: r => match execD1 P (Nat.beq i) C I G t s m with
    | some x => some x
    | none => tryX P C I G t s m r
/-- A region whose order is drawn; where it does not go as it stands, with one append of which it is not told where it lies. -/
def execD (P : Program) (C : CB) (I : CI) (G : List Tmp) (t : Tr) (s : FX) (m : MX) : Option (FX × MX) :=
  match execD1 P (fun _ => false) C I G t s m with
  | some x => some x
  | none => tryX P C I G t s m (app1s t)
theorem execD_sound {P : Program} {Γ : YEnv} {C : CB} {I : CI} (hC : CBok P Γ C) (hI : CIok P Γ I) {G : List Tmp} {t : Tr} {s s' : FX} {m m' : MX} (h : execD P C I G t s m = some (s', m')) {Q : Exit → Fr → Mem → Prop} (hQ : Q .normal (sem s') (memOf m')) : wpS P G (.regD t) Γ Q (sem s) (memOf m) := by
  unfold execD at h
  split at h
  · rename_i x hx
    cases h
    exact execD1_sound hC hI hx hQ
  · have key : ∀ l : List Nat, tryX P C I G t s m l = some (s', m') → wpS P G (.regD t) Γ Q (sem s) (memOf m) := by
      intro l
      induction l with
      | nil => intro h; cases h
      | cons i r ih =>
        intro h
        simp only [tryX] at h
        split at h
        · rename_i x hx
          cases h
          exact execD1_sound hC hI hx hQ
        · exact ih h
    exact key _ h
end
end Go.Proofs.Ytnhodgonmceojaa.Sh
