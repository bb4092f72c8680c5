/- All operations of the abstract memory together. -/
import Derived.Test.YtnhodgonmceojaaShI
set_option linter.unusedVariables false
set_option linter.unusedSimpArgs false
namespace Go.Proofs.Ytnhodgonmceojaa.Sh
open Go.RowKit

section
variable {P : Program} {E : Env} {m : Mem} {w : World} {B : Nat} {ev ev' : Operand → Value}

theorem notAgg {P : Program} {t : TypeId} {d : TypeDesc} (hu : P.underlying t = some d) (h1 : ∀ f, d ≠ .struct f) (h2 : ∀ n e, d ≠ .array n e) : ∃ d, P.underlying t = some d ∧ (∀ f, d ≠ .struct f) ∧ ∀ n e, d ≠ .array n e := ⟨d, hu, h1, h2⟩

theorem step_sound (hR : Rel E m w B) (hev : ∀ x, Rep E m.next (ev x) (ev' x)) (hcv : ∀ c, ev' (.const c) = c) {o : Oper} {ao : AOp} (hc : compOp P o.op = some ao) {v : Value} {m' : Mem} (h : step P ao ev m = some (v, m')) :
    Snd P E m w B (execOp ev' o) v m' := by
  cases hop : o.op with
  | move x =>
    simp only [compOp, hop, Option.some.injEq] at hc
    subst hc
    simp only [step, Option.some.injEq, Prod.mk.injEq] at h
    obtain ⟨rfl, rfl⟩ := h
    exact snd_mov hR hev (.inl hop)
  | assign x =>
    simp only [compOp, hop, Option.some.injEq] at hc
    subst hc
    simp only [step, Option.some.injEq, Prod.mk.injEq] at h
    obtain ⟨rfl, rfl⟩ := h
    exact snd_mov hR hev (.inr hop)
  | pick c a b =>
    simp only [compOp, hop, Option.some.injEq] at hc
    subst hc
    exact snd_pick hR hev hop h
  | alloc t =>
    simp only [compOp, hop] at hc
    split at hc
    · rename_i z hz
      split at hc
      · rename_i hk
        cases hc
        exact snd_new hR hop hz hk h
      · cases hc
    · cases hc
  | box t x =>
    simp only [compOp, hop] at hc
    split at hc
    · cases hc
      exact snd_box hR hev hop h
    · cases hc
  | build t parts =>
    simp only [compOp, hop] at hc
    split at hc
    · rename_i pl z hpl hz
      split at hc
      · rename_i hk
        obtain ⟨aps, hp, he⟩ := Option.map_eq_some_iff.1 hc
        subst he
        exact snd_build hR hev hop hpl hk hp h
      · cases hc
    · cases hc
  | buildSlice t len parts =>
    simp only [compOp, hop] at hc
    split at hc
    · rename_i e ht
      split at hc
      · rename_i z hz
        split at hc
        · rename_i hk
          simp only [Bool.and_eq_true, decide_eq_true_eq] at hk
          obtain ⟨aps, hp, he⟩ := Option.map_eq_some_iff.1 hc
          subst he
          exact snd_bslice hR hev hop ht hz hk.1.1 hk.1.2 hk.2 hp h
        · cases hc
      · cases hc
    · cases hc
  | load t x =>
    simp only [compOp, hop] at hc
    split at hc
    · rename_i f hu
      obtain ⟨n, hn, he⟩ := Option.map_eq_some_iff.1 hc
      subst he
      exact snd_ldN hR hev hop (.inl ⟨f, hu⟩) hn h
    · rename_i k e hu
      obtain ⟨n, hn, he⟩ := Option.map_eq_some_iff.1 hc
      subst he
      exact snd_ldN hR hev hop (.inr ⟨k, e, hu⟩) hn h
    · rename_i d h1 h2 hu
      cases hc
      exact snd_ld1 hR hev hop ⟨d, hu, fun f he => h1 f he, fun n e he => h2 n e he⟩ h
    · cases hc
  | store t x y =>
    simp only [compOp, hop] at hc
    obtain ⟨n, hn, he⟩ := Option.map_eq_some_iff.1 hc
    subst he
    exact snd_st hR hev hop hn h
  | nilCheck x =>
    simp only [compOp, hop, Option.some.injEq] at hc
    subst hc
    exact snd_nilck hR hev hop h
  | binOp op t x y t2 =>
    simp only [compOp, hop] at hc
    split at hc
    · cases hc
      exact snd_bin hR hev hop h
    · rename_i hu
      split at hc <;> cases hc
      · exact snd_beq hR hev hop (.inl ⟨rfl, rfl⟩) hu h
      · exact snd_beq hR hev hop (.inr ⟨rfl, rfl⟩) hu h
    · rename_i d h1 h2 hu
      split at hc
      · rename_i kd hk
        cases hc
        exact snd_isnil hR hev hop (.inl ⟨rfl, rfl⟩) hu hk hcv h
      · rename_i kd hk
        cases hc
        exact snd_isnil hR hev hop (.inr ⟨rfl, rfl⟩) hu hk hcv h
      · cases hc
    · cases hc
  | unOp op t x =>
    simp only [compOp, hop] at hc
    split at hc <;> cases hc
    · exact snd_not hR hev hop h
    · exact snd_neg hR hev hop h
  | convert src dst x =>
    simp only [compOp, hop] at hc
    split at hc
    · rename_i k0 k hs hd
      cases hc
      exact snd_conv hR hev hop hs hd h
    · cases hc
  | makeInterface t x =>
    simp only [compOp, hop] at hc
    split at hc
    · cases hc
    · rename_i d h1 hu
      cases hc
      exact snd_iface hR hev hop ⟨d, hu, fun ms he => h1 ms he⟩ h
    · cases hc
  | makeFunc fn first cap =>
    cases fn <;> simp only [compOp, hop, Option.some.injEq] at hc <;> try (cases hc; done)
    subst hc
    exact snd_mkfunc hR hev hop h
  | makeMap t r =>
    cases r <;> simp only [compOp, hop, Option.some.injEq] at hc <;> try (cases hc; done)
    subst hc
    exact snd_mkmap hR hop h
  | makeSlice t l c =>
    simp only [compOp, hop] at hc
    split at hc
    · rename_i e ht
      split at hc
      · rename_i i hi
        split at hc
        · rename_i hk
          simp only [Bool.and_eq_true, decide_eq_true_eq] at hk
          cases hc
          exact snd_mkslice hR hev hop ht hi hk.1 hk.2 h
        · cases hc
      · cases hc
    · cases hc
  | slice t x lo hi mx =>
    simp only [compOp, hop] at hc
    split at hc
    · rename_i e ht
      obtain ⟨n, hn, he⟩ := Option.map_eq_some_iff.1 hc
      subst he
      exact snd_sl hR hev hop ht hn h
    · rename_i n e ht
      obtain ⟨z, hn, he⟩ := Option.map_eq_some_iff.1 hc
      subst he
      exact snd_slArr hR hev hop ht hn h
    · cases hc
  | fieldAddr t x f =>
    simp only [compOp, hop] at hc
    split at hc
    · rename_i fields ht
      split at hc
      · rename_i fd hf
        split at hc
        · rename_i n hz
          cases hc
          exact snd_off hR hev hop ht hf hz h
        · cases hc
      · cases hc
    · cases hc
  | field t x f =>
    simp only [compOp, hop] at hc
    split at hc
    · rename_i fields ht
      split at hc
      · rename_i fd hf
        split at hc
        · rename_i g hu
          obtain ⟨n, hn, he⟩ := Option.map_eq_some_iff.1 hc
          subst he
          exact snd_fldN hR hev hop ht hf (.inl ⟨g, hu⟩) hn h
        · rename_i k e hu
          obtain ⟨n, hn, he⟩ := Option.map_eq_some_iff.1 hc
          subst he
          exact snd_fldN hR hev hop ht hf (.inr ⟨k, e, hu⟩) hn h
        · rename_i d h1 h2 hu
          cases hc
          exact snd_fld1 hR hev hop ht hf ⟨d, hu, fun f he => h1 f he, fun n e he => h2 n e he⟩ h
        · cases hc
      · cases hc
    · cases hc
  | indexAddr t x i =>
    simp only [compOp, hop] at hc
    split at hc
    · rename_i n e ht
      obtain ⟨z, hn, he⟩ := Option.map_eq_some_iff.1 hc
      subst he
      exact snd_ixArr hR hev hop ht hn h
    · rename_i e ht
      obtain ⟨z, hn, he⟩ := Option.map_eq_some_iff.1 hc
      subst he
      exact snd_ixSl hR hev hop ht hn h
    · cases hc
  | index t x i =>
    simp only [compOp, hop] at hc
    split at hc
    · rename_i n e ht
      split at hc
      · rename_i g z hu hz
        cases hc
        exact snd_ixValN hR hev hop ht hz (.inl ⟨g, hu⟩) h
      · rename_i k e' z hu hz
        cases hc
        exact snd_ixValN hR hev hop ht hz (.inr ⟨k, e', hu⟩) h
      · rename_i d h1 h2 hu hz
        cases hc
        exact snd_ixVal1 hR hev hop ht hz ⟨d, hu, fun f he => h1 f he, fun n e he => h2 n e he⟩ h
      · cases hc
    · cases hc
  | extract x i =>
    simp only [compOp, hop, Option.some.injEq] at hc
    subst hc
    exact snd_ext hR hev hop h
  | lookup t x i ok =>
    simp only [compOp, hop] at hc
    split at hc
    · rename_i k e ht
      split at hc
      · rename_i kd hk
        split at hc
        · rename_i hz
          cases hc
          exact snd_look hR hev hop ht hk hz h
        · cases hc
      · cases hc
    · cases hc
  | mapUpdate t x i y =>
    simp only [compOp, hop] at hc
    split at hc
    · rename_i k e ht
      split at hc
      · rename_i kd hk
        cases hc
        exact snd_mapset hR hev (.inl hop) ht hk h
      · cases hc
    · cases hc
  | insert t x i y =>
    simp only [compOp, hop] at hc
    split at hc
    · rename_i k e ht
      split at hc
      · rename_i kd hk
        cases hc
        exact snd_mapset hR hev (.inr hop) ht hk h
      · cases hc
    · cases hc
  | call c =>
    obtain ⟨callee, args, argTypes⟩ := c
    cases callee with
    | value f => simp only [compOp, hop, Option.some.injEq] at hc; subst hc; simp [step] at h
    | invoke r name => simp only [compOp, hop, Option.some.injEq] at hc; subst hc; simp [step] at h
    | builtin b =>
      cases b <;> simp only [compOp, hop] at hc <;> try (cases hc; done)
      case append =>
        split at hc
        · rename_i t t' s x e1 e2
          split at hc
          · rename_i htt
            subst htt
            split at hc
            · rename_i e ht
              split at hc
              · rename_i i hi
                split at hc
                · rename_i hk
                  simp only [Bool.and_eq_true, decide_eq_true_eq] at hk
                  cases hc
                  have ha : args = #[s, x] := by rw [← Array.toArray_toList (xs := args), e2]
                  have hb : argTypes = #[t, t] := by rw [← Array.toArray_toList (xs := argTypes), e1]
                  subst ha; subst hb
                  exact snd_app hR hev hop ht hi hk.1 hk.2 h
                · cases hc
              · cases hc
            · cases hc
          · cases hc
        · cases hc
      case len =>
        split at hc
        · rename_i t x e1 e2
          have ha : args = #[x] := by rw [← Array.toArray_toList (xs := args), e2]
          have hb : argTypes = #[t] := by rw [← Array.toArray_toList (xs := argTypes), e1]
          subst ha; subst hb
          split at hc
          · rename_i n e ht
            cases hc
            exact snd_lenC hR hop ht h
          · rename_i e ht
            cases hc
            exact snd_len hR hev hop (.inl ⟨rfl, e, ht⟩) h
          · rename_i ht
            cases hc
            exact snd_len hR hev hop (.inr (.inl ⟨rfl, ht⟩)) h
          · rename_i k e ht
            cases hc
            exact snd_len hR hev hop (.inr (.inr ⟨rfl, k, e, ht⟩)) h
          · cases hc
        · cases hc
      case max => cases hc; exact snd_minmax hR hev (isMin := false) hop h
      case min => cases hc; exact snd_minmax hR hev (isMin := true) hop h
  | _ => simp [compOp, hop] at hc

end
end Go.Proofs.Ytnhodgonmceojaa.Sh
