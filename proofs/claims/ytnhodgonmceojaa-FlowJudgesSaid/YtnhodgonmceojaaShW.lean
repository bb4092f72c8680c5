/- The run itself, and what it settles. -/
import Derived.Test.YtnhodgonmceojaaShV
set_option linter.unusedVariables false
set_option linter.unusedSimpArgs false
namespace Go.Proofs.Ytnhodgonmceojaa.Sh
open Go.RowKit

abbrev Run := List Tmp → YX → S → FX → MX → Option (Exit × FX × MX)
def findX (g : FuncId) : List (FuncId × XF) → Option XF
  | [] => none
  | (k, x) :: r => if k = g then some x else findX g r

section
variable (P : Program) (T : List (FuncId × XF))
def resX (x : XF) (s : FX) (m : MX) : Option (Value × MX) := match resL x.rs (sem s) (memOf m) with
  | some vs => some (resV vs, m)
  | none => none
def callX (run : Run) (Y : YX) (g : FuncId) (args : List Value) (m : MX) : Option (Value × MX) :=
  match findX g T with
  | some x => if args.length ≤ x.n then match run x.G Y x.c (argX 0 args) m with
    | some (.normal, s, m') => resX x s m'
    | some (.ret, s, m') => resX x s m'
    | _ => none
    else none
  | none => none
def endX (i : Nat) : Option (Exit × FX × MX) → Option (Value × MX)
  | some (.normal, _, m) => some (.bool true, m.set i (.loop .ready none))
  | some (.ret, _, m) => some (.bool false, m.set i (.loop .done (some .ret)))
  | some (.exit id, _, m) => some (.bool false, m.set i (.loop .done (some (.exit id))))
  | _ => none
def roundX (run : Run) : YX → Nat → List Value → MX → Option (Value × MX)
  | .nil, _, _, _ => none
  | .cons i ps a b G s rest, j, args, m =>
    if j = i then
      match m.get i with
      | some (.loop .ready none) => if args.length = ps.length then match run G rest a (bindX ps args (valsX s)) (m.kill i) with
        | some (.normal, s1, m1) => endX i (run G rest b s1 m1)
        | _ => none
        else none
      | _ => none
    else if j < i then roundX run rest j args m else none
def cbV (run : Run) (Y : YX) : CB := fun f args m =>
  match f with
  | .func (.func g) first cap => callX T run Y g (first.toList ++ args ++ cap.toList) m
  | .func (.yield i) first cap => if first.toList.isEmpty && cap.toList.isEmpty then roundX run Y i args m else none
  | _ => none
def cbI (run : Run) (Y : YX) : CI := fun r nm args m =>
  match r with
  | .iface t v => match methA P t nm with
    | some f => callX T run Y f (v :: args) m
    | none => none
  | _ => none
def afterX (i : Nat) (s : FX) (m : MX) : Option (Exit × FX × MX) :=
  match m.get i with
  | some (.loop .busy _) => none
  | some (.loop _ none) => some (.normal, s, m.kill i)
  | some (.loop _ (some .ret)) => some (.ret, s, m.kill i)
  | some (.loop _ (some (.exit id))) => some (.exit id, s, m.kill i)
  | _ => none

def exec : Nat → Run
  | 0, _, _, _, _, _ => none
  | f + 1, G, Y, c, s, m =>
    match c with
    | .skip => some (.normal, s, m)
    | .reg ops => match execOps P (cbV T (exec f) Y) (cbI P T (exec f) Y) ops s m with
      | some (s, m) => some (.normal, limX G s, m)
      | none => none
    | .regD t => match execD P (cbV T (exec f) Y) (cbI P T (exec f) Y) G t s m with
      | some (s, m) => some (.normal, s, m)
      | none => none
    | .seq x y => match exec f G Y x s m with
      | some (.normal, s, m) => exec f G Y y s m
      | r => r
    | .cond c x y => match evalO (sem s) c with
      | .bool true => exec f G Y x s m
      | .bool false => exec f G Y y s m
      | _ => none
    | .block id x => match exec f G Y x s m with
      | some (.exit i, s, m) => if i = id then some (.normal, s, m) else some (.exit i, s, m)
      | r => r
    | .scope x => match exec f G Y x s m with
      | some (.goto _, _, _) => none
      | r => r
    | .loop x => match exec f G Y x s m with
      | some (.normal, s, m) => exec f G Y (.loop x) s m
      | r => r
    | .exit id => some (.exit id, s, m)
    | .ret => some (.ret, s, m)
    | .rfunc fv ps a b => match evalO (sem s) fv with
      | .func (.func g) first cap => match callX T (exec f) (.cons m.next ps a b G s Y) g (first.toList ++ [.func (.yield m.next) #[] #[]] ++ cap.toList) (m.new (.loop .ready none)) with
        | some (_, m2) => afterX m.next s m2
        | none => none
      | _ => none
end

def RunOk (P : Program) (run : Run) : Prop := ∀ G Y c s m e s' m', run G Y c s m = some (e, s', m') → ∀ Q : Exit → Fr → Mem → Prop, Q e (sem s') (memOf m') → wpS P G c (den P Y) Q (sem s) (memOf m)
def TOk (P : Program) (T : List (FuncId × XF)) : Prop := ∀ p ∈ T, FOk P p.1 p.2

section
variable {P : Program} {T : List (FuncId × XF)}
theorem findX_mem {g : FuncId} {x : XF} : ∀ {T : List (FuncId × XF)}, findX g T = some x → (g, x) ∈ T
  | [], h => by cases h
  | (k, y) :: r, h => by
    simp only [findX] at h
    split at h
    · rename_i e; cases h; subst e; simp
    · exact List.mem_cons_of_mem _ (findX_mem h)

theorem callX_sound (hT : TOk P T) {run : Run} (hr : RunOk P run) {Y : YX} {g : FuncId} {args : List Value} {m m' : MX} {v : Value} (h : callX T run Y g args m = some (v, m')) {K : Value → Mem → Prop} (hK : K v (memOf m')) : ACalls P (den P Y) g args (memOf m) K := by
  unfold callX at h
  split at h
  · rename_i x hx
    have hf := hT _ (findX_mem hx)
    split at h
    · rename_i hl
      have key : ∀ (e : Exit) (s : FX) (m1 : MX), (e = .normal ∨ e = .ret) → run x.G Y x.c (argX 0 args) m = some (e, s, m1) → resX x s m1 = some (v, m') → ACalls P (den P Y) g args (memOf m) K := by
        intro e s m1 he h1 h2
        unfold resX at h2
        split at h2
        · rename_i vs hvs
          cases h2
          refine acalls_fok (den_mono P Y) hf hl ?_
          rw [argF_eq]
          exact hr _ _ _ _ _ _ _ _ h1 _ ⟨he, vs, hvs, hK⟩
        · cases h2
      split at h
      · rename_i s m1 h1; exact key _ _ _ (.inl rfl) h1 h
      · rename_i s m1 h1; exact key _ _ _ (.inr rfl) h1 h
      · cases h
    · cases h
  · cases h

theorem roundX_sound {run : Run} (hr : RunOk P run) : ∀ (Y : YX) (j : Nat) (args : List Value) (m m' : MX) (v : Value), roundX run Y j args m = some (v, m') → ∀ K : Value → Mem → Prop, K v (memOf m') → den P Y j args (memOf m) K
  | .nil, j, args, m, m', v, h, K, hK => by cases h
  | .cons i ps a b G s rest, j, args, m, m', v, h, K, hK => by
    simp only [roundX] at h
    split at h
    · rename_i hji
      split at h
      · rename_i hg
        split at h
        · rename_i hl
          split at h
          · rename_i s1 m1 h1
            refine .inl ⟨hji, hg, hl, ?_⟩
            rw [← sem_valsX, ← sem_bindX, ← memOf_kill]
            refine hr _ _ _ _ _ _ _ _ h1 _ ⟨rfl, ?_⟩
            generalize h2 : run G rest b s1 m1 = r2 at h
            unfold endX at h
            split at h
            · cases h
              refine hr _ _ _ _ _ _ _ _ h2 _ ?_
              rw [memOf_set] at hK
              exact hK
            · cases h
              refine hr _ _ _ _ _ _ _ _ h2 _ ?_
              rw [memOf_set] at hK
              exact hK
            · cases h
              refine hr _ _ _ _ _ _ _ _ h2 _ ?_
              rw [memOf_set] at hK
              exact hK
            · cases h
          · cases h
        · cases h
      · cases h
    · split at h
      · rename_i hlt; exact .inr ⟨hlt, roundX_sound hr rest j args m m' v h K hK⟩
      · cases h

theorem cbV_ok (hT : TOk P T) {run : Run} (hr : RunOk P run) (Y : YX) : CBok P (den P Y) (cbV T run Y) := by
  intro f args m v m' h K hK
  unfold cbV at h
  unfold callK
  split at h
  · exact callX_sound hT hr h hK
  · rename_i i first cap
    split at h
    · rename_i he
      simp only [Bool.and_eq_true, List.isEmpty_iff] at he
      exact ⟨Array.ext' (by simpa using he.1), Array.ext' (by simpa using he.2), roundX_sound hr Y i args m m' v h K hK⟩
    · cases h
  · cases h
theorem cbI_ok (hT : TOk P T) {run : Run} (hr : RunOk P run) (Y : YX) : CIok P (den P Y) (cbI P T run Y) := by
  intro f nm args m v m' h K hK
  unfold cbI at h
  unfold invK
  split at h
  · split at h
    · rename_i g hg; dsimp only; rw [hg]; exact callX_sound hT hr h hK
    · cases h
  · cases h

theorem loop_unroll {G : List Tmp} {Γ : YEnv} (hΓ : YMono Γ) {x : S} {Q : Exit → Fr → Mem → Prop} {s s1 : Fr} {m m1 : Mem} (h1 : wpS P G x Γ (fun e s' m' => e = .normal ∧ s' = s1 ∧ m' = m1) s m) (h2 : wpS P G (.loop x) Γ Q s1 m1) : wpS P G (.loop x) Γ Q s m := by
  obtain ⟨I, n1, hI, hrd⟩ := h2
  refine ⟨fun n s' m' => I n s' m' ∨ (n = n1 + 1 ∧ s' = s ∧ m' = m), n1 + 1, .inr ⟨rfl, rfl, rfl⟩, ?_⟩
  rintro n s' m' (h | ⟨rfl, rfl, rfl⟩)
  · refine wpS_mono x hΓ (fun e s2 m2 h => ?_) _ _ (hrd n s' m' h)
    cases e with
    | normal => obtain ⟨n', hn, hI'⟩ := h; exact ⟨n', hn, .inl hI'⟩
    | _ => exact h
  · refine wpS_mono x hΓ (fun e s2 m2 h => ?_) _ _ h1
    obtain ⟨rfl, rfl, rfl⟩ := h
    exact ⟨n1, by omega, .inl hI⟩

theorem exec_ok (hT : TOk P T) : ∀ f : Nat, RunOk P (exec P T f)
  | 0 => fun G Y c s m e s' m' h => by cases h
  | f + 1 => by
    have ih := exec_ok hT f
    have hΓ := den_mono P
    intro G Y c s m e s' m' h Q hQ
    cases c with
    | skip => simp only [exec] at h; cases h; exact hQ
    | reg ops =>
      simp only [exec] at h
      split at h
      · rename_i s1 m1 h1
        cases h
        exact execOps_sound (cbV_ok hT ih Y) (cbI_ok hT ih Y) ops s _ m _ h1 ⟨[], hQ⟩
      · cases h
    | regD t =>
      simp only [exec] at h
      split at h
      · rename_i s1 m1 h1
        cases h
        exact execD_sound (cbV_ok hT ih Y) (cbI_ok hT ih Y) h1 hQ
      · cases h
    | seq x y =>
      simp only [exec] at h
      split at h
      · rename_i s1 m1 h1
        exact ih _ _ _ _ _ _ _ _ h1 _ (ih _ _ _ _ _ _ _ _ h _ hQ)
      · rename_i hn
        refine ih _ _ _ _ _ _ _ _ h _ ?_
        cases e with
        | normal => exact absurd h (hn s' m')
        | _ => exact hQ
    | cond c x y =>
      simp only [exec] at h
      simp only [wpS]
      split at h
      · rename_i hc; rw [hc]; exact ⟨fun _ => ih _ _ _ _ _ _ _ _ h _ hQ, fun e => by cases e⟩
      · rename_i hc; rw [hc]; exact ⟨fun e => by (cases e), fun _ => ih _ _ _ _ _ _ _ _ h _ hQ⟩
      · cases h
    | block id x =>
      simp only [exec] at h
      split at h
      · rename_i i s1 m1 h1
        refine ih _ _ _ _ _ _ _ _ h1 _ ?_
        dsimp only
        split at h
        · rename_i e; cases h; rw [if_pos e]; exact hQ
        · rename_i e; cases h; rw [if_neg e]; exact hQ
      · rename_i hn
        refine ih _ _ _ _ _ _ _ _ h _ ?_
        cases e with
        | exit i => exact absurd h (hn i s' m')
        | _ => exact hQ
    | scope x =>
      simp only [exec] at h
      split at h
      · cases h
      · rename_i hn
        refine ih _ _ _ _ _ _ _ _ h _ ?_
        cases e with
        | goto i => exact absurd h (hn i s' m')
        | _ => exact hQ
    | loop x =>
      simp only [exec] at h
      split at h
      · rename_i s1 m1 h1
        exact loop_unroll (hΓ Y) (ih _ _ _ _ _ _ _ _ h1 _ ⟨rfl, rfl, rfl⟩) (ih _ _ _ _ _ _ _ _ h _ hQ)
      · rename_i hn
        refine ⟨fun n s2 m2 => n = 0 ∧ s2 = sem s ∧ m2 = memOf m, 0, ⟨rfl, rfl, rfl⟩, ?_⟩
        rintro n s2 m2 ⟨rfl, rfl, rfl⟩
        refine ih _ _ _ _ _ _ _ _ h _ ?_
        cases e with
        | normal => exact absurd h (hn s' m')
        | _ => exact hQ
    | exit id => simp only [exec] at h; cases h; exact hQ
    | ret => simp only [exec] at h; cases h; exact hQ
    | rfunc fv ps a b =>
      simp only [exec] at h
      split at h
      · rename_i g first cap hfv
        split at h
        · rename_i v2 m2 h1
          refine ⟨g, first, cap, hfv, ?_⟩
          rw [← memOf_new]
          refine callX_sound hT ih h1 ?_
          unfold afterX at h
          unfold AfterR
          rw [memOf_get]
          rw [memOf_next]
          split at h
          · cases h
          · rename_i st hb hg; cases h; rw [hg]; rw [memOf_kill] at hQ; cases st <;> first | exact hQ | exact absurd rfl hb
          · rename_i st hb hg; cases h; rw [hg]; rw [memOf_kill] at hQ; cases st <;> first | exact hQ | exact absurd rfl hb
          · rename_i st id hb hg; cases h; rw [hg]; rw [memOf_kill] at hQ; cases st <;> first | exact hQ | exact absurd rfl hb
          · cases h
        · cases h
      · cases h
end
end Go.Proofs.Ytnhodgonmceojaa.Sh
