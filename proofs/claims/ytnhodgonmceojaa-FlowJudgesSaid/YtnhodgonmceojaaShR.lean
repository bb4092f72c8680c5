/- Code over the abstract memory is sound; a function's contract from its body. -/
import Derived.Test.YtnhodgonmceojaaShQ
set_option linter.unusedVariables false
set_option linter.unusedSimpArgs false
namespace Go.Proofs.Ytnhodgonmceojaa.Sh
open Go.RowKit

section
variable {F : Fence} {n : Nat} {P : Program} {Q : Exit → Act → World → Prop} {b : Frame} {a : Act} {k : List Item} {cs : List Frame} {w : World}
def noGoto (Q : Exit → Act → World → Prop) : Exit → Act → World → Prop
  | .goto _, _, _ => False
  | e, a, w => Q e a w
theorem stepR_scope {c : Code} : Go.step P (lone (b.atR a (.code (.scope c) :: k)) cs w) = .next (lone (b.atR a (.code c :: .inScope c :: k)) cs w) :=
  step_lone_go (by simp [stepG, stepG.exec, Frame.atR])
theorem stepR_inScope {c : Code} : Go.step P (lone (b.atR a (.inScope c :: k)) cs w) = .next (lone (b.atR a k) cs w) :=
  step_lone_go (by simp [stepG, stepG.exec, Frame.atR])
theorem wpIn_scope {c : Code} (h : c.wpIn F n P (noGoto Q) a w) : (Code.scope c).wpIn F n P Q a w := by
  intro b k cs hro hb hr
  have h0 : (lone (b.atR a (.code (.scope c) :: k)) cs w).fenced P F := fenced_calm hb hr rfl
  obtain ⟨e, a₁, w₁, hq, harr⟩ := h b (.inScope c :: k) cs hro hb hr
  cases e with
  | normal => exact ⟨.normal, a₁, w₁, hq, .head h0 stepR_scope (StepsIn.trans harr (.one (fenced_calm hb hr rfl) stepR_inScope))⟩
  | exit id =>
    have hx : exitTo id (.inScope c :: k) = exitTo id k := by simp [exitTo]
    exact ⟨.exit id, a₁, w₁, hq, fun k' hk => .head h0 stepR_scope (harr.1 k' (by rw [hx]; exact hk)),
      fun hr' hk => let ⟨k₁, h1, h2⟩ := harr.2 hr' (by rw [hx]; exact hk); ⟨k₁, h1, .head h0 stepR_scope h2⟩⟩
  | goto l => exact hq.elim
  | ret => exact ⟨_, a₁, w₁, hq, .of_steps (.one h0 stepR_scope) harr⟩
  | panic ch => exact ⟨_, a₁, w₁, hq, .of_steps (.one h0 stepR_scope) harr⟩
  | outgrown => exact ⟨_, a₁, w₁, hq, .of_steps (.one h0 stepR_scope) harr⟩
end

section
variable {P : Program} {N : Nat} {G : List Tmp}

theorem sound_of : ∀ (c : Code) (sc : S), compC P N c = some sc → Sound P N G c sc
  | .skip, sc, h => by
    cases h
    intro Γ hΓ Q s m hw h0 B r E w a hS
    exact wpIn_skip ⟨E, m, s, Evo.refl _ _ _, hS, hw⟩
  | .label l, sc, h => by
    cases h
    intro Γ hΓ Q s m hw h0 B r E w a hS
    exact wpIn_label ⟨E, m, s, Evo.refl _ _ _, hS, hw⟩
  | .region id ops false, sc, h => by
    obtain ⟨so, h1, rfl⟩ := Option.map_eq_some_iff.1 h
    exact sound_reg h1
  | .region id ops true, sc, h => by
    obtain ⟨so, h1, rfl⟩ := Option.map_eq_some_iff.1 h
    exact sound_regD h1
  | .seq x y, sc, h => by
    simp only [compC] at h
    split at h
    · rename_i sa sb h1 h2
      cases h
      have ix := sound_of x sa h1
      have iy := sound_of y sb h2
      intro Γ hΓ Q s m hw h0 B r E w a hS
      refine wpIn_seq (wpIn_mono (ix Γ hΓ _ s m hw _ _ _ _ _ _ hS) ?_)
      rintro e a' w' ⟨E', m', s', he, hS', hq⟩
      cases e with
      | normal => exact wpIn_mono (iy Γ hΓ _ _ _ hq _ _ _ _ _ _ hS') fun e a w h => h.from he
      | _ => exact ⟨E', m', s', he, hS', hq⟩
    · cases h
  | .cond c x y, sc, h => by
    simp only [compC] at h
    split at h
    · rename_i sa sb h1 h2
      cases h
      have ix := sound_of x sa h1
      have iy := sound_of y sb h2
      intro Γ hΓ Q s m hw h0 B r E w a hS
      simp only [wpS] at hw
      split at hw
      · rename_i t ht
        have hc := hS.fr.ev c
        rw [ht] at hc
        refine wpIn_cond hc.bool_inv ?_
        cases t with
        | true => exact ix Γ hΓ Q s m (hw.1 rfl) _ _ _ _ _ _ hS
        | false => exact iy Γ hΓ Q s m (hw.2 rfl) _ _ _ _ _ _ hS
      · exact hw.elim
    · cases h
  | .block id x, sc, h => by
    obtain ⟨sa, h1, rfl⟩ := Option.map_eq_some_iff.1 h
    have ix := sound_of x sa h1
    intro Γ hΓ Q s m hw h0 B r E w a hS
    refine wpIn_block (wpIn_mono (ix Γ hΓ _ s m hw _ _ _ _ _ _ hS) ?_)
    rintro e a' w' ⟨E', m', s', he, hS', hq⟩
    cases e with
    | exit i =>
      simp only [Exit.inBlock]
      dsimp only at hq
      split at hq
      · rename_i e; rw [if_pos e]; exact ⟨E', m', s', he, hS', hq⟩
      · rename_i e; rw [if_neg e]; exact ⟨E', m', s', he, hS', hq⟩
    | _ => exact ⟨E', m', s', he, hS', hq⟩
  | .loop x, sc, h => by
    obtain ⟨sa, h1, rfl⟩ := Option.map_eq_some_iff.1 h
    have ix := sound_of x sa h1
    rintro Γ hΓ Q s m ⟨I, n0, hI, hrd⟩ h0 B r E w a hS
    refine wpIn_loop_ghost (fun n a' w' => ∃ E' m' s', Evo E m w E' m' w' ∧ St P Γ N h0 B r E' m' w' s' a' ∧ I n s' m') n0 ⟨E, m, s, Evo.refl _ _ _, hS, hI⟩ ?_
    rintro n a' w' ⟨E', m', s', he, hS', hI'⟩
    refine wpIn_mono (ix Γ hΓ _ _ _ (hrd n s' m' hI') _ _ _ _ _ _ hS') ?_
    rintro e a2 w2 ⟨E2, m2, s2, he2, hS2, hq⟩
    cases e with
    | normal =>
      obtain ⟨n', hn, hI2⟩ := hq
      exact ⟨n', hn, E2, m2, s2, he.trans he2, hS2, hI2⟩
    | _ => exact ⟨E2, m2, s2, he.trans he2, hS2, hq⟩
  | .exit id, sc, h => by
    cases h
    intro Γ hΓ Q s m hw h0 B r E w a hS
    exact wpIn_exit ⟨E, m, s, Evo.refl _ _ _, hS, hw⟩
  | .ret, sc, h => by
    cases h
    intro Γ hΓ Q s m hw h0 B r E w a hS
    exact wpIn_ret ⟨E, m, s, Evo.refl _ _ _, hS, hw⟩
  | .rangeFunc f ps x y, sc, h => by
    simp only [compC] at h
    split at h
    · rename_i sa sb h1 h2
      split at h
      · rename_i hp
        cases h
        exact sound_rfunc (sound_of x sa h1) (sound_of y sb h2) hp
      · cases h
    · cases h
  | .scope x, sc, h => by
    obtain ⟨sa, h1, rfl⟩ := Option.map_eq_some_iff.1 h
    have ix := sound_of x sa h1
    intro Γ hΓ Q s m hw h0 B r E w a hS
    refine wpIn_scope (wpIn_mono (ix Γ hΓ _ s m hw _ _ _ _ _ _ hS) ?_)
    rintro e a' w' ⟨E', m', s', he, hS', hq⟩
    cases e with
    | goto l => exact hq
    | _ => exact ⟨E', m', s', he, hS', hq⟩
  | .goto _, sc, h => by cases h
  | .refuse _, sc, h => by cases h
end

/-! ### Results, contracts -/
inductive RV where
  | tmp (t : Tmp)
  | cell (t : Tmp)
  | cellN (t : Tmp) (n : Nat)
def compR (P : Program) : List ResultVar → Option (List RV)
  | [] => some []
  | .tmp t :: r => (compR P r).map (.tmp t :: ·)
  | .cell a t :: r => match P.underlying t with
    | some (.struct _) | some (.array _ _) => match tsz P t with
      | some n => (compR P r).map (.cellN a n :: ·)
      | none => none
    | none => none
    | some _ => (compR P r).map (.cell a :: ·)
def resL : List RV → Fr → Mem → Option (List Value)
  | [], _, _ => some []
  | .tmp t :: r, s, m => (resL r s m).map ((s t).v :: ·)
  | .cell t :: r, s, m => match (s t).v with
    | .pointer (some a) => match m.cell a.block a.off, resL r s m with
      | some v, some vs => some (v :: vs)
      | _, _ => none
    | _ => none
  | .cellN t n :: r, s, m => match (s t).v with
    | .pointer (some a) => match m.cells a.block a.off n, resL r s m with
      | some v, some vs => some (.agg v.toArray :: vs)
      | _, _ => none
    | _ => none
def resV : List Value → Value
  | [v] => v
  | vs => .tuple vs.toArray

def resF (tmps : Array Value) : ResultVar → Sem Value
  | .tmp t => pure (tmps.getD t undef)
  | .cell a t => do loadVar t (← asAddr (tmps.getD a undef))

section
variable {P : Program} {N : Nat}

theorem res_run {E : Env} {m : Mem} {w : World} {B : Nat} {s : Fr} {a : Act} (hR : Rel E m w B) (hF : FR E m w N s a) : ∀ (rs : List ResultVar) (rvs : List RV) (vs : List Value), compR P rs = some rvs → resL rvs s m = some vs →
    ∃ us, RepL E m.next vs us ∧ (rs.mapM (resF a.tmps)).run P w = .ok us w
  | [], rvs, vs, h1, h2 => by
    cases h1; cases h2
    exact ⟨[], RepL.nil _ _, by simp⟩
  | .tmp t :: rs, rvs, vs, h1, h2 => by
    obtain ⟨r1, e1, rfl⟩ := Option.map_eq_some_iff.1 h1
    obtain ⟨v1, e2, rfl⟩ := Option.map_eq_some_iff.1 h2
    obtain ⟨us, k1, k2⟩ := res_run hR hF rs r1 v1 e1 e2
    refine ⟨_ :: us, RepL.cons (hF.2 t).rep k1, ?_⟩
    simp only [List.mapM_cons, resF, Sem.run_bind, Sem.run_pure, Result.andThen_ok, k2]
  | .cell ad t :: rs, rvs, vs, h1, h2 => by
    have key : ∀ d, P.underlying t = some d → (∀ f, d ≠ .struct f) → (∀ n e, d ≠ .array n e) → (compR P rs).map (RV.cell ad :: ·) = some rvs →
        ∃ us, RepL E m.next vs us ∧ ((ResultVar.cell ad t :: rs).mapM (resF a.tmps)).run P w = .ok us w := by
      intro d hd n1 n2 h1
      obtain ⟨r1, e1, rfl⟩ := Option.map_eq_some_iff.1 h1
      simp only [resL] at h2
      split at h2
      · rename_i ad' hp
        split at h2
        · rename_i v1 vs1 hv hvs
          cases h2
          obtain ⟨us, k1, k2⟩ := res_run hR hF rs r1 vs1 e1 hvs
          have hp' := (hF.2 ad).rep
          rw [hp] at hp'
          obtain ⟨hp1, _, _⟩ := hp'.ptr_inv
          obtain ⟨u, hu1, hu2⟩ := hR.cell hv
          have hu1' : w.cell? (E.emb ad') = some u := hu1
          have hag : (isAgg t).run P w = .ok false w := by
            cases d <;> first | exact absurd rfl (n1 _) | exact absurd rfl (n2 _ _) | simp [isAgg, run_underlying hd]
          refine ⟨u :: us, RepL.cons hu2 k1, ?_⟩
          have hh : (resF a.tmps (.cell ad t)).run P w = .ok u w := by simp only [resF, hp1]; simp [asAddr, loadVar, hag, hu1']
          simp only [List.mapM_cons, Sem.run_bind, hh, Sem.run_pure, Result.andThen_ok, k2]
        · cases h2
      · cases h2
    have keyN : ∀ n, ((∃ f, P.underlying t = some (.struct f)) ∨ ∃ k e, P.underlying t = some (.array k e)) → tsz P t = some n → (compR P rs).map (RV.cellN ad n :: ·) = some rvs →
        ∃ us, RepL E m.next vs us ∧ ((ResultVar.cell ad t :: rs).mapM (resF a.tmps)).run P w = .ok us w := by
      intro n hu hz h1
      obtain ⟨r1, e1, rfl⟩ := Option.map_eq_some_iff.1 h1
      simp only [resL] at h2
      split at h2
      · rename_i ad' hp
        split at h2
        · rename_i v1 vs1 hv hvs
          cases h2
          obtain ⟨us, k1, k2⟩ := res_run hR hF rs r1 vs1 e1 hvs
          have hp' := (hF.2 ad).rep
          rw [hp] at hp'
          obtain ⟨hp1, _, _⟩ := hp'.ptr_inv
          obtain ⟨hl, cu, hus1, hus2⟩ := hR.cells hv
          obtain ⟨i, hi, hiz⟩ := tsz_info hz
          have hul : cu.length = n := by rw [← hus1.1]; exact hl
          have hld : (loadCells (E.emb ad') n).run P w = .ok cu.toArray w := by
            rw [← hul]; exact run_loadCells_list w (E.emb ad') cu hus2
          refine ⟨.agg cu.toArray :: us, RepL.cons (Rep.agg_mk hus1) k1, ?_⟩
          have hh : (resF a.tmps (.cell ad t)).run P w = .ok (.agg cu.toArray) w := by
            simp only [resF, hp1]
            rcases hu with ⟨f, hf⟩ | ⟨k, e, hf⟩ <;> simp [asAddr, loadVar, isAgg, run_underlying hf, sizeOf, typeInfo, hi, hiz, hld]
          simp only [List.mapM_cons, Sem.run_bind, hh, Sem.run_pure, Result.andThen_ok, k2]
        · cases h2
      · cases h2
    simp only [compR] at h1
    split at h1
    · rename_i f hf
      split at h1
      · rename_i n hz; exact keyN n (.inl ⟨_, hf⟩) hz h1
      · cases h1
    · rename_i f e hf
      split at h1
      · rename_i n hz; exact keyN n (.inr ⟨_, _, hf⟩) hz h1
      · cases h1
    · cases h1
    · rename_i d n1 n2 hd
      exact key d hd (fun f e => n1 f e) (fun n e' e => n2 n e' e) h1

theorem resL_vals {s : Fr} {m : Mem} : ∀ rs : List RV, resL rs (vals s) m = resL rs s m
  | [] => rfl
  | .tmp t :: r => by simp only [resL, resL_vals r]; rfl
  | .cell t :: r => by simp only [resL, resL_vals r]; rfl
  | .cellN t n :: r => by simp only [resL, resL_vals r]; rfl

theorem leaves_marks {fn : Func} {tmps : Array Value} {R : Ending → World → Prop} {E : Env} {m : Mem} {B h0 : Nat} {E0 : Env} {m0 : Mem} {w0 : World} (hh : w0.heap.size = h0)
    (hfin : ∀ w, Evo E0 m0 w0 E m w → Rel E m w B → LeavesIn Fence.wide 0 P fn tmps R [] .returning w) : ∀ (rs : List Nat) (w : World), Evo E0 m0 w0 E m w → Rel E m w B → B ≤ h0 → rs.Nodup → (∀ r ∈ rs, h0 ≤ r ∧ w.heap[r]? = some (.deferred (some []))) →
      LeavesInM Fence.wide 0 P fn tmps R (rs.map mk) .returning w
  | [], w, hE, hR, hB, hnd, hrs => hfin w hE hR
  | r :: rs, w, hE, hR, hB, hnd, hrs => by
    have h1 := hrs r (by simp)
    refine ⟨by simp, .inl ⟨r, _, rfl, run_takeDeferred h1.2, ?_⟩⟩
    have hnd' := List.nodup_cons.1 hnd
    refine leaves_marks hh hfin rs _ (hE.putObj (.inl (by rw [hh]; exact h1.1)) _) (hR.putOther (hR.defer_notOwn h1.2) (by omega) _) hB hnd'.2 fun q hq => ?_
    have h2 := hrs q (by simp [hq])
    refine ⟨h2.1, ?_⟩
    rw [World.putObj_heap_other]
    · exact h2.2
    · rintro rfl; exact hnd'.1 hq

def argF (args : List Value) : Fr := fun i => .val ((args[i]?).getD undef)

/-- A contract from a body. -/
theorem acalls_of {G : List Tmp} {Γ : YEnv} (hΓ : YMono Γ) {g : FuncId} {fn : Func} {c : Code} {sc : S} {rvs : List RV} {args : List Value} {m : Mem} {K : Value → Mem → Prop} (hf : P.funcs[g]? = some fn) (hname : (fn.name == "runtime.NumGoroutine") = false) (hb : fn.body = some c)
    (hN : fn.ntmps = N) (hc : compC P N c = some sc) (hr : compR P fn.results.toList = some rvs) (hlen : args.length ≤ N)
    (hw : wpS P G sc Γ (fun e s m' => (e = .normal ∨ e = .ret) ∧ ∃ vs, resL rvs s m' = some vs ∧ K (resV vs) m') (argF args) m) : ACalls P Γ g args m K := by
  refine ⟨enters_of hf hname hb, fun E w B args' hR hY hA => ?_⟩
  refine callsIn_of_wp_marks hf hb trivial ?_ rfl
  have hlen' : args'.length ≤ N := by rw [← hA.1]; exact hlen
  have hS : St P Γ N w.heap.size B none E m w (argF args) { tmps := args'.toArray ++ Array.replicate (fn.ntmps - args'.toArray.size) undef, defers := [] } := by
    refine ⟨hR, hY, ⟨?_, fun i => ?_⟩, ⟨[], rfl, List.nodup_nil, fun r hr => by cases hr⟩, Nat.le_refl _, fun l hl => by cases hl⟩
    · simp only [Array.size_append, Array.size_replicate, List.size_toArray]; omega
    · refine SlotOk.val ?_
      cases ha : args[i]? with
      | none => exact .junk _
      | some v =>
        obtain ⟨u, hu, hv⟩ := hA.get ha
        have : (args'.toArray ++ Array.replicate (fn.ntmps - args'.toArray.size) undef).getD i undef = u := by
          rw [Array.getD_eq_getD_getElem?, Array.getElem?_append_left (by simpa using (List.getElem?_eq_some_iff.1 hu).1)]
          simp [hu]
        rw [this]; exact hv
  refine wpIn_mono (sound_of c sc hc Γ hΓ _ _ _ hw _ _ _ _ _ _ hS) ?_
  rintro e a' w' ⟨E', m', s', hE, hS', hq, vs, hvs, hK⟩
  have fin : LeavesInM Fence.wide 0 P fn a'.tmps (fun e w' => ∃ v u E' m', e = .returned u ∧ Evo E m w E' m' w' ∧ Rel E' m' w' B ∧ Rep E' m'.next v u ∧ K v m') a'.defers .returning w' := by
    obtain ⟨rs, g1, g2, g3⟩ := hS'.defs
    rw [g1]
    refine leaves_marks (E := E') (m := m') (B := B) (E0 := E) (m0 := m) (w0 := w) rfl (fun w2 hE2 hR2 => ?_) rs w' hE hS'.rel hR.hB g2 g3
    have hF2 : ∀ t, Rep E' m'.next ((s' t).v) (a'.tmps.getD t undef) := fun t => (hS'.fr.2 t).rep
    obtain ⟨us, k1, k2⟩ := res_run (N := N) (s := vals s') hR2 ⟨hS'.fr.1, fun i => SlotOk.val (hF2 i)⟩ fn.results.toList rvs vs hr (by rw [resL_vals]; exact hvs)
    have hrun : (results fn a'.tmps).run P w2 = .ok (if h : us.toArray.size = 1 then us.toArray[0] else .tuple us.toArray) w2 := by
      have e1 : results fn a'.tmps = (do let vs ← fn.results.mapM (resF a'.tmps); pure (if h : vs.size = 1 then vs[0] else .tuple vs)) := by
        unfold results
        congr 1
      rw [e1, Array.mapM_eq_mapM_toList]
      simp only [Sem.run_bind, Sem.run_map, k2, Result.andThen_ok, Sem.run_pure]
    refine ⟨_, hrun, resV vs, _, E', m', rfl, hE2, hR2, ?_, hK⟩
    have hl := k1.1
    match vs, us, hl, k1 with
    | [], [], _, k1 => exact Rep.tup_mk k1
    | [v], [u], _, k1 => exact k1.2 0 v u rfl rfl
    | v :: v' :: vs, u :: u' :: us, _, k1 => exact Rep.tup_mk k1
  rcases hq with rfl | rfl
  · exact fin
  · exact fin

def FQ (rvs : List RV) (K : Value → Mem → Prop) : Exit → Fr → Mem → Prop := fun e s m' => (e = .normal ∨ e = .ret) ∧ ∃ vs, resL rvs s m' = some vs ∧ K (resV vs) m'
theorem acalls_of' {G : List Tmp} {Γ : YEnv} (hΓ : YMono Γ) {g : FuncId} {fn : Func} {sc : S} {rvs : List RV} {args : List Value} {m : Mem} {K : Value → Mem → Prop} (hf : P.funcs[g]? = some fn) (hname : (fn.name == "runtime.NumGoroutine") = false) (hN : fn.ntmps = N)
    (hc : fn.body.bind (compC P N) = some sc) (hr : compR P fn.results.toList = some rvs) (hlen : args.length ≤ N) (hw : wpS P G sc Γ (FQ rvs K) (argF args) m) : ACalls P Γ g args m K := by
  obtain ⟨c, hb, hc⟩ := Option.bind_eq_some_iff.1 hc
  exact acalls_of hΓ hf hname hb hN hc hr hlen hw
end
end Go.Proofs.Ytnhodgonmceojaa.Sh
