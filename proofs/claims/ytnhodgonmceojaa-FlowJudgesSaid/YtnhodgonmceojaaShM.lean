/- Orders of evaluation: which operations may change places, and one tree of orders for all. -/
import Derived.Test.YtnhodgonmceojaaShL
set_option linter.unusedVariables false
set_option linter.unusedSimpArgs false
namespace Go.Proofs.Ytnhodgonmceojaa.Sh
open Go.RowKit

def AOp.ops : AOp → List Operand
  | .mov x | .box _ _ x | .ld1 x | .ldN _ x | .nilck x | .isnil _ _ x | .not x | .neg x | .conv _ x | .iface _ x | .off x _ | .fld1 _ x | .fldN _ _ x | .ext x _ | .len _ x => [x]
  | .pick c a b => [c, a, b]
  | .new _ _ | .mkmap | .lenC _ | .bad => []
  | .build _ ps | .bslice _ _ _ ps | .lit _ _ _ ps => ps.map (·.2.2)
  | .st _ x v | .bin _ x v | .beq _ x v | .mkslice _ _ _ x v | .ixArr _ _ x v | .ixSl _ x v | .ixVal1 _ x v | .ixValN _ _ x v | .app _ _ _ x v | .look _ x v _ => [x, v]
  | .mkfunc _ f c => f ++ c
  | .sl _ x l h m | .slArr _ _ x l h m => x :: (l.toList ++ h.toList ++ m.toList)
  | .minmax _ xs => xs
  | .mapset x i v => [x, i, v]
  | .app1 _ _ _ s t => [s, .tmp t]
  | .call f xs => f :: xs
  | .invoke r _ xs => r :: xs

/-- 0: of its operands alone; 1: reads the memory; 2: turns it. -/
def AOp.memA : AOp → Nat
  | .ld1 _ | .ldN _ _ | .look _ _ _ _ | .sl _ _ _ _ _ => 1
  | .len k _ => if k = 2 then 1 else 0
  | .new _ _ | .box _ _ _ | .bslice _ _ _ _ | .st _ _ _ | .mkmap | .mkslice _ _ _ _ _ | .app _ _ _ _ _ | .mapset _ _ _ | .app1 _ _ _ _ _ | .call _ _ | .invoke _ _ _ | .bad => 2
  | _ => 0

def tmpsOf (xs : List Operand) : List Tmp := xs.filterMap fun | .tmp t => some t | _ => none
def SOp.reads (o : SOp) : List Tmp := tmpsOf o.op.ops ++ (match o.guard with | some (g, _) => [g] | none => [])
theorem mem_tmpsOf {xs : List Operand} {t : Tmp} (h : Operand.tmp t ∈ xs) : t ∈ tmpsOf xs := List.mem_filterMap.2 ⟨_, h, rfl⟩

section
variable {P : Program}

theorem step_congr {ao : AOp} {ev ev' : Operand → Value} (h : ∀ x ∈ ao.ops, ev x = ev' x) (m : Mem) : step P ao ev m = step P ao ev' m := by
  have ho : ∀ o : Option Operand, (∀ x ∈ o.toList, ev x = ev' x) → o.map ev = o.map ev' := by
    intro o ho
    cases o with
    | none => rfl
    | some x => simp [ho x (by simp)]
  cases ao with
  | build t ps => simp only [AOp.ops] at h; simp only [step]; rw [List.map_congr_left (g := fun p => (p.1, p.2.1, ev' p.2.2)) fun p hp => by rw [h p.2.2 (List.mem_map.2 ⟨p, hp, rfl⟩)]]
  | bslice e z l ps => simp only [AOp.ops] at h; simp only [step]; rw [List.map_congr_left (g := fun p => (p.1, p.2.1, ev' p.2.2)) fun p hp => by rw [h p.2.2 (List.mem_map.2 ⟨p, hp, rfl⟩)]]
  | lit e z l ps => rfl
  | app1 => rfl
  | call => rfl
  | invoke => rfl
  | bad => rfl
  | mkfunc f a c =>
    simp only [AOp.ops, List.mem_append] at h
    simp only [step]
    rw [List.map_congr_left fun x hx => h x (.inl hx), List.map_congr_left (l := c) fun x hx => h x (.inr hx)]
  | minmax b xs =>
    simp only [AOp.ops] at h
    simp only [step]
    rw [List.map_congr_left h]
  | sl z x l hi mx =>
    simp only [AOp.ops, List.mem_cons, List.mem_append] at h
    simp only [step]
    rw [h x (.inl rfl), ho l fun y hy => h y (.inr (.inl (.inl hy))), ho hi fun y hy => h y (.inr (.inl (.inr hy))), ho mx fun y hy => h y (.inr (.inr hy))]
  | slArr n z x l hi mx =>
    simp only [AOp.ops, List.mem_cons, List.mem_append] at h
    simp only [step]
    rw [h x (.inl rfl), ho l fun y hy => h y (.inr (.inl (.inl hy))), ho hi fun y hy => h y (.inr (.inl (.inr hy))), ho mx fun y hy => h y (.inr (.inr hy))]
  | _ =>
    simp only [AOp.ops, List.mem_cons, List.not_mem_nil, or_false, forall_eq_or_imp, forall_eq, List.mem_singleton] at h
    simp only [step, h]

theorem step_quiet {ao : AOp} {ev : Operand → Value} {m m' : Mem} {v : Value} (hq : ao.memA ≤ 1) (h : step P ao ev m = some (v, m')) : m' = m := by
  cases ao <;> simp only [AOp.memA] at hq <;> first
    | (exfalso; omega)
    | (simp only [step] at h; (repeat' split at h) <;> simp_all; done)
    | (simp only [step] at h; (repeat' split at h) <;> first | (cases h; done) | (simp only [Option.map_eq_some_iff, Prod.mk.injEq] at h; obtain ⟨_, _, _, h⟩ := h; exact h.symm) | (cases h; rfl))

theorem step_pure {ao : AOp} {ev : Operand → Value} (hq : ao.memA = 0) (m m' : Mem) : (step P ao ev m).map (·.1) = (step P ao ev m').map (·.1) := by
  cases ao <;> simp only [AOp.memA] at hq <;> first
    | (exfalso; omega)
    | (simp only [step, Option.map_map] <;> (repeat' split) <;> first | rfl | (simp only [Option.map_map]; rfl) | (simp_all; done))


/-- What an operation that leaves the memory alone puts into its slot. -/
def qvK (P : Program) (o : SOp) (s : Fr) (m : Mem) : Option Slot :=
  match o.op with
  | .lit e z len parts => (buildA (zeros P e len) (parts.map fun p => (p.1, p.2.1, evalO s p.2.2))).map (.lit len ·)
  | ao => (step P ao (evalO s) m).map fun r => .val r.1
def qv (P : Program) (o : SOp) (s : Fr) (m : Mem) : Option Slot :=
  match o.guard with
  | none => qvK P o s m
  | some (g, want) => match s g with
    | .val (.bool b) => if b = want then qvK P o s m else some .skip
    | .skip => some .skip
    | _ => none

theorem evalO_congr {s s' : Fr} {xs : List Operand} (h : ∀ t ∈ tmpsOf xs, s t = s' t) : ∀ x ∈ xs, evalO s x = evalO s' x := by
  intro x hx
  cases x with
  | tmp t => simp only [evalO]; rw [h t (mem_tmpsOf hx)]
  | const v => rfl
  | global g => rfl
  | func f => rfl

theorem qv_congr {o : SOp} {s s' : Fr} (h : ∀ t ∈ o.reads, s t = s' t) (m : Mem) : qv P o s m = qv P o s' m := by
  have h1 : ∀ x ∈ o.op.ops, evalO s x = evalO s' x := evalO_congr fun t ht => h t (List.mem_append_left _ ht)
  have hk : qvK P o s m = qvK P o s' m := by
    unfold qvK
    split
    · rename_i e z len parts hop
      rw [hop] at h1
      rw [List.map_congr_left (g := fun p => (p.1, p.2.1, evalO s' p.2.2)) fun p hp => by rw [h1 p.2.2 (List.mem_map.2 ⟨p, hp, rfl⟩)]]
    · rw [step_congr h1]
  unfold qv
  cases hg : o.guard with
  | none => exact hk
  | some gw =>
    obtain ⟨g, want⟩ := gw
    simp only
    rw [h g (List.mem_append_right _ (by rw [hg]; simp)), hk]

theorem qv_pure {o : SOp} (hq : o.op.memA = 0) (s : Fr) (m m' : Mem) : qv P o s m = qv P o s m' := by
  have hk : qvK P o s m = qvK P o s m' := by
    unfold qvK
    split
    · rfl
    · have := step_pure (P := P) (ev := evalO s) hq m m'
      have e : ∀ x : Option (Value × Mem), x.map (fun r => Slot.val r.1) = (x.map (·.1)).map Slot.val := fun x => by cases x <;> rfl
      rw [e, e, this]
  unfold qv
  cases o.guard with
  | none => exact hk
  | some gw => simp only [hk]

theorem opG_quiet {Γ : YEnv} {o : SOp} {K : Fr → Mem → Prop} {s : Fr} {m : Mem} {x : Slot} (hq : o.op.memA ≤ 1) (h : qv P o s m = some x) (hK : K (putO s o.dst x) m) : opG P Γ o K s m := by
  have hk : ∀ x, qvK P o s m = some x → K (putO s o.dst x) m → opK P Γ o K s m := by
    intro x h hK
    unfold qvK at h
    unfold opK
    split at h
    · rename_i e z len parts hop
      obtain ⟨cs, h1, h2⟩ := Option.map_eq_some_iff.1 h
      simp only [hop, h1]
      subst h2
      exact hK
    · rename_i hne
      obtain ⟨r, h1, h2⟩ := Option.map_eq_some_iff.1 h
      subst h2
      obtain ⟨v, m'⟩ := r
      have := step_quiet hq h1
      subst this
      split
      · rename_i e z len parts hop; exact absurd hop (hne _ _ _ _)
      · rename_i hop; rw [hop] at hq; simp [AOp.memA] at hq
      · rename_i hop; rw [hop] at hq; simp [AOp.memA] at hq
      · rename_i hop; rw [hop] at hq; simp [AOp.memA] at hq
      · rw [h1]; exact hK
  unfold qv at h
  unfold opG
  split at h
  · rename_i hg; simp only [hg]; exact hk x h hK
  · rename_i g want hg
    simp only [hg]
    split at h
    · rename_i b hb
      simp only [hb]
      split at h
      · rename_i e; rw [if_pos e]; exact hk x h hK
      · rename_i e; rw [if_neg e]; cases h; exact hK
    · rename_i hb; simp only [hb]; cases h; exact hK
    · cases h

theorem callK_mono {Γ : YEnv} {f : Value} {args : List Value} {m : Mem} {K K' : Value → Mem → Prop} (hΓ : ∀ i args m K K', (∀ v m', K v m' → K' v m') → Γ i args m K → Γ i args m K') (hk : ∀ v m', K v m' → K' v m') (h : callK P Γ f args m K) : callK P Γ f args m K' := by
  unfold callK at *
  split at h
  · exact h.mono hk
  · exact ⟨h.1, h.2.1, hΓ _ _ _ _ _ hk h.2.2⟩
  · exact h.elim
theorem invK_mono {Γ : YEnv} {f : Value} {nm : String} {args : List Value} {m : Mem} {K K' : Value → Mem → Prop} (hk : ∀ v m', K v m' → K' v m') (h : invK P Γ f nm args m K) : invK P Γ f nm args m K' := by
  unfold invK at *
  split at h
  · split at h
    · exact h.mono hk
    · exact h.elim
  · exact h.elim

def YMono (Γ : YEnv) : Prop := ∀ i args m K K', (∀ v m', K v m' → K' v m') → Γ i args m K → Γ i args m K'

theorem opG_congr {Γ : YEnv} (hΓ : YMono Γ) {o : SOp} {K K' : Fr → Mem → Prop} {s s' : Fr} {m : Mem} (hs : ∀ t ∈ o.reads, s t = s' t) (hk : ∀ x m', K (putO s o.dst x) m' → K' (putO s' o.dst x) m') (h : opG P Γ o K s m) : opG P Γ o K' s' m := by
  have h1 : ∀ x ∈ o.op.ops, evalO s x = evalO s' x := evalO_congr fun t ht => hs t (List.mem_append_left _ ht)
  have hK : opK P Γ o K s m → opK P Γ o K' s' m := by
    intro h
    unfold opK at *
    split at h
    · rename_i e z len parts hop
      rw [hop] at h1
      rw [List.map_congr_left (g := fun p => (p.1, p.2.1, evalO s' p.2.2)) fun p hp => by rw [h1 p.2.2 (List.mem_map.2 ⟨p, hp, rfl⟩)]] at h
      split at h
      · exact hk _ _ h
      · exact h.elim
    · rename_i e z bytes x t hop
      rw [hop] at h1
      have hst : s t = s' t := hs t (List.mem_append_left _ (by rw [hop]; exact mem_tmpsOf (by simp [AOp.ops])))
      have hx := h1 x (by simp [AOp.ops])
      rw [hst, hx] at h
      split at h
      · rename_i k cs hl
        obtain ⟨hlen, h⟩ := h
        refine ⟨hlen, ?_⟩
        rcases h with h | ⟨hW, h⟩
        · split at h
          · rename_i v m' ha
            exact .inl (hk _ _ h)
          · exact h.elim
        · exact .inr ⟨hW, hk _ _ h⟩
      · exact h.elim
    · rename_i f args hop
      rw [hop] at h1
      rw [h1 f (by simp [AOp.ops]), List.map_congr_left (l := args) fun x hx => h1 x (by simp [AOp.ops, hx])] at h
      exact callK_mono hΓ (fun v m' => hk _ _) h
    · rename_i r nm args hop
      rw [hop] at h1
      rw [h1 r (by simp [AOp.ops]), List.map_congr_left (l := args) fun x hx => h1 x (by simp [AOp.ops, hx])] at h
      exact invK_mono (fun v m' => hk _ _) h
    · rename_i n1 n2 n3 n4
      rw [step_congr h1] at h
      split at h
      · exact hk _ _ h
      · exact h.elim
  unfold opG at *
  cases hg : o.guard with
  | none => rw [hg] at h; exact hK h
  | some gw =>
    obtain ⟨g, want⟩ := gw
    rw [hg] at h
    dsimp only at h ⊢
    rw [hs g (List.mem_append_right _ (by rw [hg]; simp))] at h
    split at h
    · split at h
      · rename_i e; rw [if_pos e]; exact hK h
      · rename_i e; rw [if_neg e]; exact hk _ _ h
    · exact hk _ _ h
    · exact h.elim

theorem putO_comm {s : Fr} {d d' : Option Tmp} {x y : Slot} (h : ∀ t, d = some t → d' ≠ some t) : putO (putO s d x) d' y = putO (putO s d' y) d x := by
  cases d with
  | none => rfl
  | some d =>
    cases d' with
    | none => rfl
    | some d' =>
      have hne : d' ≠ d := fun e => h d rfl (by rw [e])
      funext j
      simp only [putO]
      by_cases h1 : j = d <;> by_cases h2 : j = d' <;> simp_all
theorem putO_ne {s : Fr} {d : Option Tmp} {x : Slot} {t : Tmp} (h : d ≠ some t) : putO s d x t = s t := by
  cases d with
  | none => rfl
  | some d => simp only [putO]; rw [if_neg fun e => h (by rw [e])]

end
end Go.Proofs.Ytnhodgonmceojaa.Sh
