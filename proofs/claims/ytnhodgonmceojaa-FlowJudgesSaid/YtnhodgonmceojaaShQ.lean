/- A loop over a function, on the abstract memory. -/
import Derived.Test.YtnhodgonmceojaaShP
set_option linter.unusedVariables false
set_option linter.unusedSimpArgs false
namespace Go.Proofs.Ytnhodgonmceojaa.Sh
open Go.RowKit

theorem Rel.putOther {E : Env} {m : Mem} {w : World} {B : Nat} (h : Rel E m w B) {l : Nat} (hl : notOwn E m l) (hB : B ≤ l) (o : Obj) : Rel E m (w.putObj l o) B :=
  ⟨h.lt, fun i ob hi => (h.obj i ob hi).keep (fun ho => World.putObj_heap_other (hl i ob hi ho)) (fun k hk => World.putObj_heap_other (by omega)), h.inj, by simpa using h.hB⟩

theorem Evo.putObj {E E' : Env} {m m' : Mem} {w w' : World} (h : Evo E m w E' m' w') {l : Nat} (hl : w.heap.size ≤ l ∨ ∃ i o, m.get i = some o ∧ o.own = true ∧ (E.ρ i).block = l) (o : Obj) : Evo E m w E' m' (w'.putObj l o) where
  next := h.next
  ext := h.ext
  os := h.os
  tape := h.tape
  output := h.output
  size := by simpa using h.size
  same := fun k hk hn => by
    have : k ≠ l := by
      rintro rfl
      rcases hl with hl | ⟨i, o, h1, h2, h3⟩
      · omega
      · exact hn i o h1 h2 h3
    rw [World.putObj_heap_other this]
    exact h.same k hk hn
  fresh := h.fresh

/-- The record comes back. -/
theorem Rel.revive {E : Env} {m : Mem} {w : World} {B : Nat} (h : Rel E m w B) {i l : Nat} (hi : i < m.next) (hρ : E.ρ i = ⟨l, 0, none⟩) (hl : notOwn E m l) (hB : B ≤ l) {ob : Obj} (hob : w.heap[l]? = some ob) (st : LoopState) (pe : Option Code) :
    Rel E (m.set i (.loop st pe)) (w.putObj l (.loop { E.L i with state := st, pending := pe })) B := by
  have h' := h.putOther hl hB (.loop { E.L i with state := st, pending := pe })
  have hgt : ∀ j p, (m.set i (.loop st pe)).get j = some p → (j = i ∧ p = .loop st pe) ∨ (j ≠ i ∧ m.get j = some p) := by
    intro j p hj
    by_cases e : j = i
    · subst e; rw [Mem.get_set] at hj; exact .inl ⟨rfl, by cases hj; rfl⟩
    · rw [Mem.get_set_ne _ _ _ e] at hj; exact .inr ⟨e, hj⟩
  have hb : (E.ρ i).block = l := by rw [hρ]
  refine ⟨fun j p hj => ?_, fun j p hj => ?_, fun j1 j2 p1 p2 h1 h2 g1 g2 hbb => ?_, h'.hB⟩
  · rcases hgt j p hj with ⟨rfl, _⟩ | ⟨_, hg⟩
    · exact hi
    · exact h.lt _ _ hg
  · rcases hgt j p hj with ⟨rfl, rfl⟩ | ⟨_, hg⟩
    · exact ⟨l, hρ, hB, World.putObj_heap_same (Array.getElem?_eq_some_iff.1 hob).1⟩
    · exact h'.obj j p hg
  · rcases hgt j1 p1 h1 with ⟨rfl, _⟩ | ⟨n1, k1⟩ <;> rcases hgt j2 p2 h2 with ⟨rfl, _⟩ | ⟨n2, k2⟩
    · rfl
    · exact absurd (hbb.symm.trans hb) (hl _ _ k2 g2)
    · exact absurd (hbb.trans hb) (hl _ _ k1 g1)
    · exact h.inj _ _ _ _ k1 k2 g1 g2 hbb
theorem Evo.revive {E E' : Env} {m m' : Mem} {w w' : World} (h : Evo E m w E' m' w') {i l : Nat} {o : AObj} (hi : m.get i = some o) (ho : o.own = true) (hρ : (E.ρ i).block = l) (hρ' : (E'.ρ i).block = l) (p : AObj) (ob : Obj) : Evo E m w E' (m'.set i p) (w'.putObj l ob) := by
  have h' := h.putObj (l := l) (.inr ⟨i, o, hi, ho, hρ⟩) ob
  refine ⟨h'.next, h'.ext, h'.os, h'.tape, h'.output, h'.size, h'.same, fun j q hj hq => ?_⟩
  by_cases e : j = i
  · subst e; exact .inl ⟨j, o, hi, ho, by rw [hρ, hρ']⟩
  · rw [Mem.get_set_ne _ _ _ e] at hj; exact h'.fresh j q hj hq

theorem kill_notOwn {E : Env} {m : Mem} {w : World} {B : Nat} (h : Rel E m w B) {i l : Nat} {o : AObj} (hi : m.get i = some o) (ho : o.own = true) (hρ : (E.ρ i).block = l) : notOwn E (m.kill i) l := by
  intro j p hj hp he
  by_cases e : j = i
  · subst e; rw [Mem.get_kill] at hj; cases hj
  · rw [Mem.get_kill_ne _ _ e] at hj
    exact e (h.inj j i p o hj hi hp ho (by rw [he, hρ]))

theorem foldl_size : ∀ (l : List (Tmp × Value)) (t : Array Value), (l.foldl (fun tmps (x : Tmp × Value) => tmps.setIfInBounds x.1 x.2) t).size = t.size
  | [], t => rfl
  | x :: l, t => by rw [List.foldl_cons, foldl_size l]; simp

theorem FR.bind {E : Env} {m : Mem} {w : World} {N : Nat} : ∀ (ps : List Tmp) (vs us : List Value) (s : Fr) (t : Array Value), ps.all (· < N) = true → RepL E m.next vs us → vs.length = ps.length → FR E m w N s ⟨t, []⟩ →
    FR E m w N (bindP ps vs s) ⟨(ps.zip us).foldl (fun tmps (x : Tmp × Value) => tmps.setIfInBounds x.1 x.2) t, []⟩
  | [], [], us, s, t, _, _, _, h => by simpa [bindP] using h
  | [], v :: vs, us, s, t, _, _, hl, _ => by simp at hl
  | p :: ps, [], us, s, t, _, _, hl, _ => by simp at hl
  | p :: ps, v :: vs, [], s, t, _, hr, _, _ => by have := hr.1; simp at this
  | p :: ps, v :: vs, u :: us, s, t, hp, hr, hl, h => by
    simp only [List.all_cons, Bool.and_eq_true] at hp
    have h1 : FR E m w N (putO s (some p) (.val v)) ⟨t.setIfInBounds p u, []⟩ := h.put (d := some p) (by simpa using hp.1) (SlotOk.val (hr.2 0 v u rfl rfl))
    exact FR.bind ps vs us _ _ hp.2 ⟨by have := hr.1; simpa using this, fun i a b h1 h2 => hr.2 (i + 1) a b (by simpa using h1) (by simpa using h2)⟩ (by simpa using hl) h1

section
variable {P : Program} {N : Nat} {G : List Tmp}

/-- One round. -/
theorem round_ok {x y : Code} {a b : S} {ps : Array Tmp} (hx : Sound P N G x a) (hy : Sound P N G y b) (hps : ps.toList.all (· < N) = true) {Γ : YEnv} (hΓ : YMono Γ) {B : Nat} {s : Fr} {t : Array Value}
    {i l fn D : Nat} {args : List Value} {m : Mem} {K : Value → Mem → Prop} (hget : m.get i = some (.loop .ready none)) (hlen : args.length = ps.toList.length)
    (hw : wpS P G a Γ (fun e s1 m1 => e = .normal ∧ wpS P G b Γ (RQ i K) s1 m1) (bindP ps.toList args s) (m.kill i)) {E : Env} {w : World} {args' : List Value} (hi : i < m.next)
    (hρ : E.ρ i = ⟨l, 0, none⟩) (hL : E.L i = { state := .ready, pending := none, fn := fn, tmps := t, params := ps, assign := x, body := y, defers := D }) (hR : Rel E m w B) (hfr : FR E (m.kill i) w N s ⟨t, []⟩) (hyok : YOk P Γ E m.next B) (hargs : RepL E m.next args args') :
    ∃ fn tmps assign body, (Instr.yield (E.ρ i).block args'.toArray).run P w = .ok (.round (E.ρ i).block fn tmps assign body) w ∧
      RoundIn Fence.wide 0 P (E.ρ i).block fn tmps assign body w fun e w2 => ∃ v u E2 m2, e = .returned u ∧ Evo E m w E2 m2 w2 ∧ Rel E2 m2 w2 B ∧ Rep E2 m2.next v u ∧ K v m2 := by
  have hblk : (E.ρ i).block = l := by rw [hρ]
  obtain ⟨b', e1, e2, e3⟩ := hR.obj i _ hget
  rw [hρ] at e1
  cases e1
  have hheap : w.heap[l]? = some (.loop (E.L i)) := by rw [e3, hL]
  rw [hL] at hheap
  have hB : B ≤ l := e2
  have hsz : args'.toArray.size = ps.size := by simp [← hargs.1, hlen]
  rw [hblk]
  refine ⟨fn, _, x, y, run_yield hheap hsz, ?_⟩
  obtain ⟨hk1, hk2⟩ := hR.kill i
  have hno := kill_notOwn hR hget rfl hblk
  have htm : (ps.zip args'.toArray).foldl (fun tmps (x : Tmp × Value) => tmps.setIfInBounds x.1 x.2) t = (ps.toList.zip args').foldl (fun tmps (x : Tmp × Value) => tmps.setIfInBounds x.1 x.2) t := by
    rw [← Array.foldl_toList, Array.toList_zip]
  have hfr1 : FR E (m.kill i) w N (bindP ps.toList args s) ⟨(ps.zip args'.toArray).foldl (fun tmps (x : Tmp × Value) => tmps.setIfInBounds x.1 x.2) t, []⟩ := by
    rw [htm]; exact FR.bind _ _ _ _ _ hps hargs hlen hfr
  have hS1 : St P Γ N w.heap.size B (some l) E (m.kill i) w (bindP ps.toList args s) ⟨(ps.zip args'.toArray).foldl (fun tmps (x : Tmp × Value) => tmps.setIfInBounds x.1 x.2) t, []⟩ :=
    ⟨hk1, hyok, hfr1, ⟨[], rfl, List.nodup_nil, fun r hr => by cases hr⟩, Nat.le_refl _, fun l' hl' => by cases hl'; exact ⟨⟨_, hheap⟩, hno⟩⟩
  refine roundIn_of_wpIn (F := Fence.wide) trivial (wpIn_mono (F := wideR (some l)) (hx Γ hΓ _ _ _ hw _ _ _ _ _ _ hS1) ?_)
  rintro e a1 w1 ⟨E1, m1, s1, hE1, hS2, rfl, hw1⟩
  have hno1 := hE1.notOwn (Array.getElem?_eq_some_iff.1 hheap).1 hno
  have hheap1 := hE1.keep hheap hno
  have hi1 : i < (m.kill i).next := hi
  have hρ1 : E1.ρ i = ⟨l, 0, none⟩ := by rw [hE1.ext.ρ i hi1, hρ]
  have hL1 : E1.L i = { state := .ready, pending := none, fn := fn, tmps := t, params := ps, assign := x, body := y, defers := D } := by rw [hE1.ext.L i hi1, hL]
  refine ⟨_, run_beginRound hheap1 rfl, ?_⟩
  generalize hw1b : w1.putObj l _ = w1b
  have hE01 : Evo E m w E1 m1 w1 := hk2.trans hE1
  have hE01b : Evo E m w E1 m1 w1b := by rw [← hw1b]; exact hE01.putObj (.inr ⟨i, _, hget, rfl, hblk⟩) _
  have hlt1 : l < w1.heap.size := (Array.getElem?_eq_some_iff.1 hheap1).1
  have hheap1b : w1b.heap[l]? = some (.loop { state := .busy, pending := none, fn := fn, tmps := t, params := ps, assign := x, body := y, defers := D }) := by rw [← hw1b]; exact World.putObj_heap_same hlt1
  have hrel1b : Rel E1 m1 w1b B := by rw [← hw1b]; exact hS2.rel.putOther hno1 hB _
  have hfr1b : FR E1 m1 w1b N s1 a1 := by
    refine ⟨hS2.fr.1, fun j => ?_⟩
    have := hS2.fr.2 j
    generalize s1 j = sl at this
    cases sl with
    | val v => exact this
    | skip => exact this
    | lit k cs =>
      obtain ⟨b, us, ty, f1, f2, f3, f4⟩ := this
      refine ⟨b, us, ty, f1, ?_, f3, f4⟩
      rw [← hw1b, World.putObj_heap_other]
      · exact f2
      · rintro rfl; rw [hheap1] at f2; cases f2
  have hdefs : Defs w.heap.size w1b a1.defers := by
    obtain ⟨rs, g1, g2, g3⟩ := hS2.defs
    refine ⟨rs, g1, g2, fun r hr => ⟨(g3 r hr).1, ?_⟩⟩
    rw [← hw1b, World.putObj_heap_other]
    · exact (g3 r hr).2
    · rintro rfl; have := (g3 r hr).2; rw [hheap1] at this; cases this
  have hsize : w.heap.size ≤ w1b.heap.size := by rw [← hw1b]; simpa using hS2.h0
  have hS3 : St P Γ N w.heap.size B (some l) E1 m1 w1b s1 a1 :=
    ⟨hrel1b, hS2.yok, hfr1b, hdefs, hsize, fun l' hl' => by cases hl'; exact ⟨⟨_, hheap1b⟩, hno1⟩⟩
  refine wpIn_mono (F := wideR (some l)) (hy Γ hΓ _ _ _ hw1 _ _ _ _ _ _ hS3) ?_
  rintro e a2 w2 ⟨E2, m2, s2, hE2, hS4, hq⟩
  have hheap2 := hE2.keep hheap1b hno1
  have hno2 := hE2.notOwn (Array.getElem?_eq_some_iff.1 hheap1b).1 hno1
  have hi2 : i < m1.next := Nat.lt_of_lt_of_le hi1 hE1.next
  have hρ2 : E2.ρ i = ⟨l, 0, none⟩ := by rw [hE2.ext.ρ i hi2, hρ1]
  have hL2 : E2.L i = { state := .ready, pending := none, fn := fn, tmps := t, params := ps, assign := x, body := y, defers := D } := by rw [hE2.ext.L i hi2, hL1]
  have fin : ∀ (st : LoopState) (pe : Option Code) (v : Bool), K (.bool v) (m2.set i (.loop st pe)) →
      ∃ v' u E3 m3, Ending.returned (.bool v) = .returned u ∧ Evo E m w E3 m3 (w2.putObj l (.loop { E2.L i with state := st, pending := pe })) ∧ Rel E3 m3 (w2.putObj l (.loop { E2.L i with state := st, pending := pe })) B ∧ Rep E3 m3.next v' u ∧ K v' m3 := by
    intro st pe v hk
    exact ⟨.bool v, .bool v, E2, m2.set i (.loop st pe), rfl, (hE01b.trans hE2).revive hget rfl hblk (by rw [hρ2]) _ _, hS4.rel.revive (Nat.lt_of_lt_of_le hi2 hE2.next) hρ2 hno2 hB hheap2 st pe, .bool v, hk⟩
  cases e with
  | normal => exact ⟨_, _, run_endRound none hheap2, by have := fin _ _ _ hq; rw [hL2] at this; exact this⟩
  | ret => exact ⟨_, _, run_endRound (some .ret) hheap2, by have := fin _ _ _ hq; rw [hL2] at this; exact this⟩
  | exit id => exact ⟨_, _, run_endRound (some (.exit id)) hheap2, by have := fin _ _ _ hq; rw [hL2] at this; exact this⟩
  | goto _ => exact hq.elim
  | panic _ => exact hq.elim
  | outgrown => exact hq.elim


/-- The statement. -/
theorem sound_rfunc {f : Operand} {x y : Code} {a b : S} {ps : Array Tmp} (hx : Sound P N G x a) (hy : Sound P N G y b) (hps : ps.toList.all (· < N) = true) : Sound P N G (.rangeFunc f ps x y) (.rfunc f ps.toList a b) := by
  rintro Γ hΓ Q s m ⟨g, first, cap, hf, hA⟩ h0 B r E w act hS
  refine wpIn_rangeFunc fun fn _ => ?_
  -- the function's value
  obtain ⟨xs, ys, hfe, hx', hy'⟩ : ∃ xs ys, act.eval f = .func (.func g) xs ys ∧ RepL E m.next first.toList xs.toList ∧ RepL E m.next cap.toList ys.toList := by
    have h := hS.fr.ev f
    rw [hf] at h
    generalize act.eval f = u at h
    cases h with
    | func _ _ _ xs ys _ h1 h2 h3 h4 => exact ⟨xs, ys, rfl, RepL.toL h1 h3, RepL.toL h2 h4⟩
  -- the record, the world behind it
  obtain ⟨W0, mark, D, hrun, hW0, hmark, hl0⟩ : ∃ (W0 : World) (mark : List Deferred) (D : Nat),
      (Instr.enterLoop fn act.tmps ps x y (wideR r).round).run P w = .ok (W0.heap.size, mark) (W0.alloc (.loop { state := .ready, pending := none, fn := fn, tmps := act.tmps, params := ps, assign := x, body := y, defers := D })) ∧
      (Rel E m W0 B ∧ Evo E m w E m W0) ∧ (∀ w' : World, (∀ k : Nat, W0.heap[k]? = some (Obj.deferred (some [])) → w'.heap[k]? = some (Obj.deferred (some []))) → Defs h0 w' (mark ++ act.defers)) ∧ w.heap.size ≤ W0.heap.size := by
    obtain ⟨rs, g1, g2, g3⟩ := hS.defs
    cases r with
    | none =>
      refine ⟨w.alloc (.deferred (some [])), [mk w.heap.size], w.heap.size, ?_, hS.rel.grown (World.grownBy_alloc w _ none), fun w' hw' => ⟨w.heap.size :: rs, by simp [g1], ?_, ?_⟩, by simp⟩
      · have := run_enterLoop_outer (P := P) (w := w) fn act.tmps ps x y
        rw [show w.heap.size + 1 = (w.alloc (.deferred (some []))).heap.size by simp] at this
        exact this
      · refine List.nodup_cons.2 ⟨fun hm => ?_, g2⟩
        have := (Array.getElem?_eq_some_iff.1 (g3 _ hm).2).1
        omega
      · intro q hq
        rcases List.mem_cons.1 hq with rfl | hq
        · exact ⟨hS.h0, hw' _ (World.alloc_heap_new _ _)⟩
        · refine ⟨(g3 q hq).1, hw' q ?_⟩
          rw [Below.heap_alloc w _ q (Array.getElem?_eq_some_iff.1 (g3 q hq).2).1]
          exact (g3 q hq).2
    | some l0 =>
      obtain ⟨⟨rc, hrc⟩, _⟩ := hS.rd l0 rfl
      exact ⟨w, [], rc.defers, run_enterLoop_inner hrc fn act.tmps ps x y, ⟨hS.rel, Evo.refl _ _ _⟩, fun w' hw' => ⟨rs, by simp [g1], g2, fun q hq => ⟨(g3 q hq).1, hw' q (g3 q hq).2⟩⟩, Nat.le_refl _⟩
  obtain ⟨hR0, hE0⟩ := hW0
  generalize hrec : ({ state := .ready, pending := none, fn := fn, tmps := act.tmps, params := ps, assign := x, body := y, defers := D } : Loop) = rec at hrun
  have hnew := hR0.new (.loop .ready none) (.loop rec) 0 0 rec (by
    refine ⟨W0.heap.size, by simp [Env.put], hR0.hB, ?_⟩
    rw [World.alloc_heap_new]
    subst hrec
    simp [Env.put])
  obtain ⟨hR1, hE1⟩ := hnew
  generalize hE1e : E.put m.next ⟨W0.heap.size, 0, none⟩ 0 0 rec = E1 at hR1 hE1
  have hρ1 : E1.ρ m.next = ⟨W0.heap.size, 0, none⟩ := by rw [← hE1e]; simp [Env.put]
  have hL1 : E1.L m.next = rec := by rw [← hE1e]; simp [Env.put]
  have hag1 : E.Agrees E1 m.next := hE1.ext
  have hE01 := hE0.trans hE1
  refine ⟨W0.heap.size, mark, W0.alloc (.loop rec), { target := .fn (Fn.func g) ys, args := xs ++ #[Value.func (Fn.yield W0.heap.size) #[] #[]] }, W0.alloc (.loop rec), g, (xs.toList ++ [Value.func (Fn.yield W0.heap.size) #[] #[]] ++ ys.toList).toArray, W0.alloc (.loop rec), hrun, ?_, fun _ _ => trivial, ?_, fun h => by simp [wideR, Fence.wide] at h, ?_⟩
  · have hy0 : act.eval (.const (.func (.yield W0.heap.size) #[] #[])) = .func (.yield W0.heap.size) #[] #[] := rfl
    simp [resolve, rangeCall, hfe, hy0, Deferred.ofValue]
  · have e1 : (invoke (Target.fn (Fn.func g) ys) (xs ++ #[Value.func (Fn.yield W0.heap.size) #[] #[]])).run P (W0.alloc (.loop rec)) = (callFunc g (xs ++ #[Value.func (Fn.yield W0.heap.size) #[] #[]] ++ ys)).run P (W0.alloc (.loop rec)) := by simp [invoke]
    rw [e1, hA.1]
    congr 2
    apply Array.ext'
    simp
  have hargs : RepL E1 (m.new (.loop .ready none)).next (first.toList ++ [Value.func (Fn.yield m.next) #[] #[]] ++ cap.toList) (xs.toList ++ [Value.func (Fn.yield W0.heap.size) #[] #[]] ++ ys.toList) := by
    refine ((hx'.mono hag1 (by rw [Mem.next_new]; omega)).append (RepL.cons ?_ (RepL.nil _ _))).append (hy'.mono hag1 (by rw [Mem.next_new]; omega))
    have := Rep.yield (E := E1) (n := (m.new (.loop .ready none)).next) m.next (by rw [Mem.next_new]; omega)
    rw [hρ1] at this; exact this
  have hyok : YOk P (ext Γ m.next fun args m' K => m'.get m.next = some (.loop .ready none) ∧ args.length = ps.toList.length ∧ wpS P G a Γ (fun e s1 m1 => e = .normal ∧ wpS P G b Γ (RQ m.next K) s1 m1) (bindP ps.toList args (vals s)) (m'.kill m.next)) E1 (m.new (.loop .ready none)).next B := by
    intro j args m' K hj
    rw [Mem.next_new]
    rcases hj with ⟨rfl, hget, hlen, hw⟩ | ⟨hlt, hj⟩
    · refine ⟨by omega, fun E2 w2 args' hag hnx hR2 hr2 => ?_⟩
      have hag' : E.Agrees E2 m.next := hag1.trans hag (by omega)
      have hfr : FR E2 (m'.kill m.next) w2 N (vals s) ⟨act.tmps, []⟩ := ⟨hS.fr.1, fun i => SlotOk.val ((hS.fr.2 i).rep.mono hag' (by rw [Mem.next_kill]; omega))⟩
      exact round_ok hx hy hps hΓ hget hlen hw (by omega) (by rw [hag.ρ _ (by omega), hρ1]) (by rw [hag.L _ (by omega), hL1, ← hrec]) hR2 hfr (hS.yok.mono P hag' (by omega)) hr2
    · obtain ⟨h1, h2⟩ := hS.yok j args m' K hj
      exact ⟨by omega, fun E2 w2 args' hag hnx => h2 E2 w2 args' (hag1.trans hag (by omega)) (by omega)⟩
  refine callsIn_of_wide (hA.2 E1 _ B _ hR1 hyok hargs) ?_
  rintro e w3 ⟨v, u, E3, m3, rfl, hE3, hR3, _, hq⟩
  have hi3 : m.next < (m.new (.loop .ready none)).next := by rw [Mem.next_new]; omega
  have hρ3 : E3.ρ m.next = ⟨W0.heap.size, 0, none⟩ := by rw [hE3.ext.ρ _ hi3, hρ1]
  have hL3 : E3.L m.next = rec := by rw [hE3.ext.L _ hi3, hL1]
  have hsz0 : w.heap.size ≤ W0.heap.size := hl0
  -- what is common to all the ways out
  have out : ∀ (st : LoopState) (pe : Option Code), m3.get m.next = some (.loop st pe) → st ≠ .busy →
      ∃ w4, (Instr.endLoop W0.heap.size).run P w3 = .ok pe w4 ∧ Evo E m w E3 (m3.kill m.next) w4 ∧ St P Γ N h0 B r E3 (m3.kill m.next) w4 s { act with defers := mark ++ act.defers } := by
    intro st pe hget hst
    obtain ⟨b', f1, f2, f3⟩ := hR3.obj _ _ hget
    rw [hρ3] at f1
    cases f1
    have hlt : W0.heap.size < w3.heap.size := (Array.getElem?_eq_some_iff.1 f3).1
    obtain ⟨hk1, hk2⟩ := hR3.kill m.next
    have hno : notOwn E3 (m3.kill m.next) W0.heap.size := kill_notOwn hR3 hget rfl (by rw [hρ3])
    have hrun3 := run_endLoop (P := P) f3 hst
    refine ⟨_, hrun3, ?_⟩
    generalize hw4 : w3.putObj W0.heap.size _ = w4
    have hEv : Evo E m w E3 (m3.kill m.next) w4 := by
      rw [← hw4]
      exact ((hE01.trans hE3).trans hk2).putObj (.inl hsz0) _
    have hRel : Rel E3 (m3.kill m.next) w4 B := by rw [← hw4]; exact hk1.putOther hno f2 _
    refine ⟨hEv, hRel, hS.yok.mono P hEv.ext hEv.next, hS.fr.evo hEv, hmark w4 fun k hk => ?_, Nat.le_trans hS.h0 hEv.size, hS.rd.evo hEv⟩
    have hklt := (Array.getElem?_eq_some_iff.1 hk).1
    rw [← hw4, World.putObj_heap_other (by omega)]
    exact (hE1.trans hE3).keep hk (hR0.defer_notOwn hk)
  unfold rangePost
  unfold AfterR at hq
  split at hq
  · exact hq.elim
  · rename_i st hb hget
    obtain ⟨w4, k1, k2, k3⟩ := out st none hget hb
    exact ⟨none, w4, k1, E3, _, s, k2, k3, hq⟩
  · rename_i st hb hget
    obtain ⟨w4, k1, k2, k3⟩ := out st (some .ret) hget hb
    exact ⟨some .ret, w4, k1, wpIn_ret ⟨E3, _, s, k2, k3, hq⟩⟩
  · rename_i st id hb hget
    obtain ⟨w4, k1, k2, k3⟩ := out st (some (.exit id)) hget hb
    exact ⟨some (.exit id), w4, k1, wpIn_exit ⟨E3, _, s, k2, k3, hq⟩⟩
  · exact hq.elim

end
end Go.Proofs.Ytnhodgonmceojaa.Sh
