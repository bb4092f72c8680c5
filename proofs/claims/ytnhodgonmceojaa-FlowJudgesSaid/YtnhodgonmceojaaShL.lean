/- One operation of a region is sound: what is shown of it on the abstract memory holds of the model's own. -/
import Derived.Test.YtnhodgonmceojaaShK
set_option linter.unusedVariables false
set_option linter.unusedSimpArgs false
namespace Go.Proofs.Ytnhodgonmceojaa.Sh
open Go.RowKit

section
variable {P : Program} {Γ : YEnv} {N h0 B : Nat} {r : Option Nat} {E : Env} {m : Mem} {w : World} {s : Fr} {a : Act}

theorem FR.guard (hf : FR E m w N s a) {g : Tmp} {b : Bool} (h : s g = .val (.bool b)) : a.tmps[g]? = some (.bool b) := by
  have h1 := hf.2 g
  rw [h] at h1
  have h2 := Rep.bool_inv h1
  rw [Array.getD_eq_getD_getElem?] at h2
  cases h3 : a.tmps[g]? with
  | none => rw [h3] at h2; cases h2
  | some u => rw [h3] at h2; simp at h2; rw [h2]

theorem callsIn_of_wide {f : FuncId} {args : Array Value} {R R' : Ending → World → Prop} (h : CallsIn Fence.wide 0 P f args w R) (hr : ∀ e w', R e w' → R' e w') : CallsIn (wideR r) 0 P f args w R' := CallsIn.mono (F := wideR r) h hr
theorem roundIn_of_wide {l : Nat} {f : FuncId} {tmps : Array Value} {assign body : Code} {R R' : Ending → World → Prop} (h : RoundIn Fence.wide 0 P l f tmps assign body w R) (hr : ∀ e w', R e w' → R' e w') : RoundIn (wideR r) 0 P l f tmps assign body w R' :=
  RoundIn.mono (F := wideR r) h hr

/-- A call of a function, entered. -/
theorem upon_enter {o : Oper} {K : Fr → Mem → Prop} {Kc : Act → World → Prop} {Q : Exit → Act → World → Prop} (hS : St P Γ N h0 B r E m w s a) (hd : o.dst.all (· < N) = true)
    (hk : ∀ E' m' w' s' a', Evo E m w E' m' w' → St P Γ N h0 B r E' m' w' s' a' → K s' m' → Kc a' w') {g : FuncId} {args args' : List Value} (hA : ACalls P Γ g args m fun v m' => K (putO s o.dst (.val v)) m') (hr : RepL E m.next args args') :
    o.uponIn (wideR r) 0 P a Kc Q (.ok (.enter g args'.toArray) w) := by
  rw [Oper.uponIn_enter]
  refine ⟨fun h => by simp [wideR, Fence.wide] at h, callsIn_of_wide (hA.2 E w B args' hS.rel hS.yok hr) ?_⟩
  rintro e w' ⟨v, u, E', m', rfl, h1, h2, h3, h4⟩
  exact hk E' m' w' _ _ h1 (hS.next h1 h2 hd h3) h4

theorem RepL.toL {E : Env} {n : Nat} {xs ys : Array Value} (hx : xs.size = ys.size) (h : ∀ (i : Nat) (v u : Value), xs[i]? = some v → ys[i]? = some u → Rep E n v u) : RepL E n xs.toList ys.toList :=
  ⟨by simpa using hx, fun i v u h1 h2 => h i v u (by simpa using h1) (by simpa using h2)⟩

theorem upon_call {o : Oper} {c : Call} {f : Operand} {K : Fr → Mem → Prop} {Kc : Act → World → Prop} {Q : Exit → Act → World → Prop} (ho : o.op = .call c) (hcf : c.callee = .value f) (hS : St P Γ N h0 B r E m w s a) (hd : o.dst.all (· < N) = true)
    (hk : ∀ E' m' w' s' a', Evo E m w E' m' w' → St P Γ N h0 B r E' m' w' s' a' → K s' m' → Kc a' w')
    (h : callK P Γ (evalO s f) (c.args.toList.map (evalO s)) m fun v m' => K (putO s o.dst (.val v)) m') : o.uponIn (wideR r) 0 P a Kc Q ((execOp a.eval o).run P w) := by
  have hf := hS.fr.ev f
  have hargs : RepL E m.next (c.args.toList.map (evalO s)) (c.args.toList.map a.eval) := mapRep (fun x => hS.fr.ev x) _
  unfold callK at h
  generalize hfv : evalO s f = fv at h hf
  split at h
  · rename_i g first cap
    cases hfe : a.eval f with
    | func fn xs ys =>
      rw [hfe] at hf
      cases hf with
      | func _ _ _ _ _ hne hx hy h1 h2 =>
        have hrun : (execOp a.eval o).run P w = .ok (.enter g (xs.toList ++ c.args.toList.map a.eval ++ ys.toList).toArray) w := by
          have e1 : (execOp a.eval o).run P w = (callFunc g (xs ++ c.args.map a.eval ++ ys)).run P w := by simp [execOp, ho, resolve, hcf, hfe, Deferred.ofValue, invoke]
          rw [e1, h.1]
          congr 2
          apply Array.ext'
          simp
        rw [hrun]
        exact upon_enter hS hd hk h (((RepL.toL hx h1).append hargs).append (RepL.toL hy h2))
    | _ => rw [hfe] at hf; cases hf
  · rename_i i first cap
    obtain ⟨rfl, rfl, h⟩ := h
    obtain ⟨hi, hy⟩ := hS.yok i _ m _ h
    cases hfe : a.eval f with
    | func fn xs ys =>
      rw [hfe] at hf
      have hfx : fn = .yield (E.ρ i).block ∧ xs = #[] ∧ ys = #[] := by
        cases hf with
        | func _ _ _ _ _ hne => exact absurd rfl (hne i)
        | yield => exact ⟨rfl, rfl, rfl⟩
      obtain ⟨rfl, rfl, rfl⟩ := hfx
      obtain ⟨fn, tmps, assign, body, hrun, hround⟩ := hy E w _ (Env.Agrees.refl _ _) (Nat.le_refl _) hS.rel hargs
      have e1 : (execOp a.eval o).run P w = .ok (.round (E.ρ i).block fn tmps assign body) w := by
        have : (execOp a.eval o).run P w = (Instr.yield (E.ρ i).block (c.args.map a.eval)).run P w := by simp [execOp, ho, resolve, hcf, hfe, Deferred.ofValue, invoke]
        rw [this, ← hrun]
        congr 2
        apply Array.ext'
        simp
      rw [e1, Oper.uponIn_round]
      refine ⟨fun h => by simp [wideR, Fence.wide] at h, roundIn_of_wide hround ?_⟩
      rintro e w' ⟨v, u, E', m', rfl, h1, h2, h3, h4⟩
      exact hk E' m' w' _ _ h1 (hS.next h1 h2 hd h3) h4
    | _ => rw [hfe] at hf; cases hf
  · exact h.elim

theorem meth_run {t : TypeId} {name : String} {f : FuncId} {u : Value} (h : methA P t name = some f) : (method (P.types.size + Made.depth) t u name).run P w = .ok (f, u) w := by
  have hfu : P.types.size + Made.depth = (P.types.size + (Made.depth - 1)) + 1 := by simp [Made.depth]
  rw [hfu]
  unfold methA at h
  split at h
  · rename_i i hi
    split at h
    · rename_i mt hmt
      split at h
      · rename_i hp
        have hp' : mt.path.toList = [] := by simpa using hp
        split at h
        · rename_i f' e h1 h2
          cases h
          simp [method, typeInfo, hi, hmt, hp', follow, h1, receiverAt, run_underlying h2, Place.get]
        · cases h
        · rename_i f' d h0 h1 h2
          cases h
          have hne : ∀ e, d ≠ .pointer e := fun e he => h0 e he
          simp only [method, typeInfo, Sem.run_bind, run_program, hi, Result.andThen_ok, hmt, hp', follow, h1, receiverAt, run_underlying h2, Place.get, Sem.run_pure]
        · cases h
      · cases h
    · cases h
  · cases h

theorem upon_invoke {o : Oper} {c : Call} {rc : Operand} {name : String} {K : Fr → Mem → Prop} {Kc : Act → World → Prop} {Q : Exit → Act → World → Prop} (ho : o.op = .call c) (hcf : c.callee = .invoke rc name) (hS : St P Γ N h0 B r E m w s a) (hd : o.dst.all (· < N) = true)
    (hk : ∀ E' m' w' s' a', Evo E m w E' m' w' → St P Γ N h0 B r E' m' w' s' a' → K s' m' → Kc a' w')
    (h : invK P Γ (evalO s rc) name (c.args.toList.map (evalO s)) m fun v m' => K (putO s o.dst (.val v)) m') : o.uponIn (wideR r) 0 P a Kc Q ((execOp a.eval o).run P w) := by
  have hf := hS.fr.ev rc
  have hargs : RepL E m.next (c.args.toList.map (evalO s)) (c.args.toList.map a.eval) := mapRep (fun x => hS.fr.ev x) _
  unfold invK at h
  generalize hfv : evalO s rc = fv at h hf
  split at h
  · rename_i t v
    split at h
    · rename_i g hg
      cases hfe : a.eval rc with
      | iface t' u =>
        rw [hfe] at hf
        cases hf with
        | iface _ _ _ hvu =>
          have hrun : (execOp a.eval o).run P w = .ok (.enter g (u :: c.args.toList.map a.eval).toArray) w := by
            have e1 : (execOp a.eval o).run P w = (callFunc g (#[u] ++ c.args.map a.eval)).run P w := by
              have hx : (#[Value.iface t u] ++ c.args.map a.eval).extract 1 (c.args.size + 1) = c.args.map a.eval := by
                apply Array.ext'
                simp [List.take_of_length_le]
              simp [execOp, ho, resolve, hcf, hfe, invoke, callMethod, meth_run hg, Nat.add_comm 1, hx]
            rw [e1, h.1]
            congr 2
            apply Array.ext'
            simp
          rw [hrun]
          exact upon_enter hS hd hk h (RepL.cons hvu hargs)
      | _ => rw [hfe] at hf; cases hf
    · exact h.elim
  · exact h.elim

theorem comp_call {op : Op} {f : Operand} {args : List Operand} (h : compOp P op = some (.call f args)) : ∃ c : Call, op = .call c ∧ c.callee = .value f ∧ args = c.args.toList := by
  cases op with
  | call c =>
    obtain ⟨cl, cs, ts⟩ := c
    cases cl with
    | value g => simp only [compOp, Option.some.injEq, AOp.call.injEq] at h; exact ⟨_, rfl, by simp [h.1], h.2.symm⟩
    | invoke g nm => simp [compOp] at h
    | builtin b =>
      exfalso
      cases b <;> simp only [compOp] at h <;> (repeat' split at h) <;> first | (simp at h; done) | simp_all
  | _ => exfalso; simp only [compOp] at h <;> (repeat' split at h) <;> first | (simp at h; done) | simp_all
theorem comp_invoke {op : Op} {f : Operand} {name : String} {args : List Operand} (h : compOp P op = some (.invoke f name args)) : ∃ c : Call, op = .call c ∧ c.callee = .invoke f name ∧ args = c.args.toList := by
  cases op with
  | call c =>
    obtain ⟨cl, cs, ts⟩ := c
    cases cl with
    | invoke g nm => simp only [compOp, Option.some.injEq, AOp.invoke.injEq] at h; exact ⟨_, rfl, by simp [h.1, h.2.1], h.2.2.symm⟩
    | value g => simp [compOp] at h
    | builtin b =>
      exfalso
      cases b <;> simp only [compOp] at h <;> (repeat' split at h) <;> first | (simp at h; done) | simp_all
  | _ => exfalso; simp only [compOp] at h <;> (repeat' split at h) <;> first | (simp at h; done) | simp_all
theorem comp_bslice {op : Op} {e : TypeId} {z len : Nat} {aps : List (Nat × Nat × Operand)} (h : compOp P op = some (.bslice e z len aps)) : ∃ t parts, op = .buildSlice t len parts ∧ P.underlying t = some (.slice e) ∧ tsz P e = some z ∧ zok P e z = true ∧ 0 < z ∧ len * z ≤ 16777216 ∧ partsOf (fun i => some (i * z, z)) parts.toList = some aps := by
  cases op with
  | call c =>
    obtain ⟨cl, cs, ts⟩ := c
    exfalso
    cases cl with
    | invoke g nm => simp [compOp] at h
    | value g => simp [compOp] at h
    | builtin b => cases b <;> simp only [compOp] at h <;> (repeat' split at h) <;> first | (simp at h; done) | simp_all
  | buildSlice t len' parts =>
    simp only [compOp] at h
    split at h
    · rename_i e' ht
      split at h
      · rename_i z' hz
        split at h
        · rename_i hk
          simp only [Bool.and_eq_true, decide_eq_true_eq] at hk
          obtain ⟨aps', hp, he⟩ := Option.map_eq_some_iff.1 h
          cases he
          exact ⟨t, parts, rfl, ht, hz, hk.1.1, hk.1.2, hk.2, hp⟩
        · cases h
      · cases h
    · cases h
  | _ => exfalso; simp only [compOp] at h <;> (repeat' split at h) <;> first | (simp at h; done) | simp_all
theorem comp_app {op : Op} {e : TypeId} {z bytes : Nat} {x y : Operand} (h : compOp P op = some (.app e z bytes x y)) : ∃ t i, op = .call { callee := .builtin .append, args := #[x, y], argTypes := #[t, t] } ∧ P.underlying t = some (.slice e) ∧ P.info? e = some i ∧ zok P e i.size = true ∧ 0 < i.size ∧ z = i.size ∧ bytes = i.bytes := by
  cases op with
  | call c =>
    obtain ⟨cl, cs, ts⟩ := c
    cases cl with
    | invoke g nm => simp [compOp] at h
    | value g => simp [compOp] at h
    | builtin b =>
      cases b with
      | append =>
        simp only [compOp] at h
        split at h
        · rename_i t t' s' x' ht hx
          split at h
          · rename_i he
            subst he
            split at h
            · rename_i e' hu
              split at h
              · rename_i i hi
                split at h
                · rename_i hk
                  simp only [Bool.and_eq_true, decide_eq_true_eq] at hk
                  cases h
                  have h1 : cs = #[x, y] := Array.ext' (by simpa using hx)
                  have h2 : ts = #[t, t] := Array.ext' (by simpa using ht)
                  subst h1 h2
                  exact ⟨t, i, rfl, hu, hi, hk.1, hk.2, rfl, rfl⟩
                · cases h
              · cases h
            · cases h
          · cases h
        · cases h
      | _ => exfalso; simp only [compOp] at h <;> (repeat' split at h) <;> first | (simp at h; done) | simp_all
  | _ => exfalso; simp only [compOp] at h <;> (repeat' split at h) <;> first | (simp at h; done) | simp_all
theorem lit_cells {z k b : Nat} {us : Array Value} {ty : TypeId} (h : w.heap[b]? = some (.cells us ty (0, 0))) (hul : us.toList.length = k * z) : (Builtin.firstCells z k (.slice (some ⟨b, 0, none⟩) k k)).run P w = .ok us.toList.toArray w :=
  run_firstCells_some (P := P) w z k ⟨b, 0, none⟩ k k us.toList hul (fun j u hj => by
    rw [add_mk]
    simp only [World.cell?, h]
    simpa using hj)

/-- An operation that is wanted. -/
theorem op_wp {ops : Array Oper} {o : Oper} {ao : AOp} {gd : Option (Tmp × Bool)} {K : Fr → Mem → Prop} {Kc : Act → World → Prop} {Q : Exit → Act → World → Prop} (hop : sopOp P ops o = some ao) (hS : St P Γ N h0 B r E m w s a) (hd : o.dst.all (· < N) = true)
    (hk : ∀ E' m' w' s' a', Evo E m w E' m' w' → St P Γ N h0 B r E' m' w' s' a' → K s' m' → Kc a' w') (h : opK P Γ ⟨o.dst, ao, gd⟩ K s m) : o.wpIn (wideR r) 0 P a w Kc Q := by
  unfold Oper.wpIn
  refine ⟨fun _ _ => trivial, ?_⟩
  rw [show (wideR r).round = r from rfl, Oper.semAt_eq r a.eval o (not_defer hop)]
  have hval : ∀ {nx : Next} {u : Value} {w' : World}, (execOp a.eval o).run P w = .ok nx w' → (nx = .value u ∨ (nx = .skip ∧ u = undef)) → Kc (a.put o.dst u) w' → o.uponIn (wideR r) 0 P a Kc Q ((execOp a.eval o).run P w) := by
    intro nx u w' h1 h2 h3
    rw [h1]
    rcases h2 with rfl | ⟨rfl, rfl⟩
    · rw [Oper.uponIn_value]; exact h3
    · rw [Oper.uponIn_skip]; exact h3
  have hstep : ∀ {v : Value} {m' : Mem}, compOp P o.op = some ao → step P ao (evalO s) m = some (v, m') → K (putO s o.dst (.val v)) m' → o.uponIn (wideR r) 0 P a Kc Q ((execOp a.eval o).run P w) := by
    intro v m' h1 h2 h3
    obtain ⟨nx, u, w', E', e1, e2, e3, e4, e5⟩ := step_sound hS.rel (fun x => hS.fr.ev x) (fun c => rfl) h1 h2
    exact hval e1 e2 (hk _ _ _ _ _ e3 (hS.next e3 e4 hd e5) h3)
  rcases comp_of_sop hop with ⟨hc, hp⟩ | ⟨a1, hc, hl⟩ | ⟨rfl, _⟩
  · have hc' := hc
    unfold opK at h
    cases ao with
    | lit e z len parts => simp [plainA] at hp
    | app1 e z bytes x t => simp [plainA] at hp
    | call f args =>
      obtain ⟨c, ho, hcf, rfl⟩ := comp_call hc
      exact upon_call ho hcf hS hd hk h
    | invoke rc name args =>
      obtain ⟨c, ho, hcf, rfl⟩ := comp_invoke hc
      exact upon_invoke ho hcf hS hd hk h
    | _ =>
      simp only at h
      split at h
      · rename_i v m' hs; exact hstep hc hs h
      · exact h.elim
  · unfold litOp at hl
    split at hl
    · rename_i e z len aps
      cases hl
      simp only [opK] at h
      split at h
      · rename_i cs hb
        obtain ⟨t, parts, ho, ht, hz, hk', h0', hfit, hp⟩ := comp_bslice hc
        obtain ⟨us, h1, h2, h3⟩ := bslice_run (m := m) (fun x => hS.fr.ev x) ho ht hz hk' h0' hfit hp hb
        have hg := World.grownBy_alloc w (.cells us.toArray e (0, 0))
        obtain ⟨hr1, hr2⟩ := hS.rel.grown (hg none)
        refine hval (h3 w) (.inl rfl) (hk _ _ _ _ _ hr2 ((hS.evo hr2 hr1).put hd (x := .lit len cs) ⟨w.heap.size, us.toArray, e, rfl, World.alloc_heap_new _ _, by simpa using h1, ?_⟩) h)
        exact hS.rel.above_notOwn (Nat.le_refl _)
      · exact h.elim
    · rename_i e z bytes x t
      cases hl
      simp only [opK] at h
      split at h
      · rename_i k cs hl
        obtain ⟨hlen, h⟩ := h
        obtain ⟨t', i, ho, ht, hi, hz, h0', rfl, rfl⟩ := comp_app hc
        have hsl := hS.fr.2 t
        rw [hl] at hsl
        obtain ⟨b, us, ty, e1, e2, e3, e4⟩ := hsl
        have hev : a.eval (.tmp t) = .slice (some ⟨b, 0, none⟩) k k := e1
        have hexec : (execOp a.eval o).run P w = ((Builtin.append_ #[t', t'] o.type #[a.eval x, .slice (some ⟨b, 0, none⟩) k k]).run P w).andThen fun v w => .ok (.value v) w := by
          simp [execOp, ho, resolve, invoke, builtin, hev]
        have hul : us.toList.length = k * i.size := by rw [← e3.1]; exact hlen
        rcases h with h | ⟨hW, h⟩
        · split at h
          · rename_i v m' ha
            obtain ⟨nx, u, w', E', f1, f2, f3, f4, f5⟩ := snd_appL hS.rel hexec ht hi hz h0' (hS.fr.ev x) e3 hlen rfl (lit_cells (w := w) e2 hul) (lit_cells (w := w.drew) e2 hul) ha
            exact hval f1 f2 (hk _ _ _ _ _ f3 (hS.next f3 f4 hd f5) h)
          · exact h.elim
        · obtain ⟨nx, u, w', E', f1, f2, f3, f4, f5⟩ := snd_appW hS.rel hexec ht hi hz h0' (hS.fr.ev x) e3 hlen rfl (lit_cells (w := w) e2 hul) (lit_cells (w := w.drew) e2 hul) hW
          exact hval f1 f2 (hk _ _ _ _ _ f3 (hS.next f3 f4 hd f5) h)
      · exact h.elim
    · cases hl
  · simp [opK, step] at h

end
end Go.Proofs.Ytnhodgonmceojaa.Sh
