/- Maps with integer keys; then all operations together. -/
import Derived.Test.YtnhodgonmceojaaShH
set_option linter.unusedVariables false
set_option linter.unusedSimpArgs false
namespace Go.Proofs.Ytnhodgonmceojaa.Sh
open Go.RowKit

section
variable {P : Program} {E : Env} {m : Mem} {w : World} {B : Nat}

theorem Rep.tup_mk {n : Nat} {cs us : List Value} (h : RepL E n cs us) : Rep E n (.tuple cs.toArray) (.tuple us.toArray) :=
  .tup _ _ (by simpa using h.1) fun i v u h1 h2 => h.2 i v u (by simpa using h1) (by simpa using h2)

theorem keyEq_run {a b a' b' : Value} {n : Nat} {q : Bool} {kd : IntKind} (h : keyEq a b = some q) (ha : Rep E n a a') (hb : Rep E n b b') : Instr.sameNow (.int kd) a' b' = some q := by
  unfold keyEq at h
  split at h
  · split at h
    · cases h
      rename_i k x k' y hk
      subst hk
      rw [ha.int_inv, hb.int_inv]
      simp [Instr.sameNow]
    · cases h
  · cases h

theorem find_run {kd : IntKind} {k k' : Value} {n : Nat} (hk : Rep E n k k') : ∀ (es : List (Value × Value)) (es' : List MapEntry) (i : Nat) (r : Option Nat), findA k es i = some r →
    RepL E n (es.map (·.1)) (es'.map (·.key)) → Instr.findNow (.int kd) k' es' i = some (r.map fun j => (j, ((es'[j - i]?).map (·.val)).getD undef)) ∧ ∀ j, r = some j → i ≤ j ∧ j - i < es'.length
  | [], es', i, r, h, hl => by
    simp only [findA, Option.some.injEq] at h
    subst h
    have : es' = [] := List.eq_nil_of_length_eq_zero (by have := hl.1; simpa using this.symm)
    subst this
    exact ⟨rfl, fun j hj => by cases hj⟩
  | (a, b) :: es, [], i, r, h, hl => by have := hl.1; simp at this
  | (a, b) :: es, e :: es', i, r, h, hl => by
    have h0 : Rep E n a e.key := hl.2 0 a e.key rfl rfl
    have hl' : RepL E n (es.map (·.1)) (es'.map (·.key)) := ⟨by have := hl.1; simpa using this, fun i v u h1 h2 => hl.2 (i + 1) v u (by simpa using h1) (by simpa using h2)⟩
    simp only [findA] at h
    split at h
    · rename_i hq
      cases h
      have := keyEq_run (kd := kd) hq hk h0
      exact ⟨by simp [Instr.findNow, this], fun j hj => by cases hj; simp⟩
    · rename_i hq
      have hs := keyEq_run (kd := kd) hq hk h0
      obtain ⟨h1, h2⟩ := find_run hk es es' (i + 1) r h hl'
      refine ⟨?_, fun j hj => by have := h2 j hj; simp; omega⟩
      rw [Instr.findNow, hs]
      simp only
      rw [h1]
      cases r with
      | none => rfl
      | some j =>
        have := h2 j rfl
        have hji : j - i = (j - (i + 1)) + 1 := by omega
        simp [hji]
    · cases h

variable {ev ev' : Operand → Value} (hR : Rel E m w B) (hev : ∀ x, Rep E m.next (ev x) (ev' x))
include hR hev

omit hR hev in
theorem isInt_inv {v u : Value} {n : Nat} (h : isInt v = true) (hr : Rep E n v u) : ∃ k i, v = .int k i ∧ u = .int k i := by
  unfold isInt at h
  split at h
  · exact ⟨_, _, rfl, hr.int_inv⟩
  · cases h

omit hR hev in
theorem checkKey_run {key : TypeId} {kd : IntKind} (hk : P.underlying key = some (.int kd)) (b : Bool) (v : Value) (w : World) : (Instr.checkKey b 10000 key v).run P w = .ok () w := by
  have : ∀ d, (Instr.checkKey b (d + 1) key v).run P w = .ok () w := fun d => by
    rw [Instr.checkKey]
    simp [run_underlying hk]
  exact this 9999

theorem snd_look {o : Oper} {t key e : TypeId} {kd : IntKind} {x y : Operand} {ok : Bool} {v : Value} {m' : Mem} (ho : o.op = .lookup t x y ok) (ht : P.underlying t = some (.map key e)) (hk : P.underlying key = some (.int kd)) (hz : zok P e (Zc P e).length = true)
    (h : step P (.look e x y ok) ev m = some (v, m')) : Snd P E m w B (execOp ev' o) v m' := by
  obtain ⟨i, zv, hi, hz0, hcc, hzl, hs, hzv⟩ := zok_info hz
  have hzr : Rep E m.next zv zv := by
    rw [hcc] at hs
    by_cases hsim : simple zv = true
    · exact simple_rep hsim _ _
    · cases zv with
      | agg cs =>
        have := simple_repL hs E m.next
        exact .agg _ _ rfl fun i v u h1 h2 => this.2 i v u (by simpa [Value.cells] using h1) (by simpa [Value.cells] using h2)
      | _ => exact absurd (by simpa [Value.cells] using hs) hsim
  have hzero : (zeroValue e).run P w = .ok zv w := by simp [zeroValue, typeInfo, hi, hz0]
  simp only [step] at h
  split at h
  case isFalse => cases h
  rename_i hint
  obtain ⟨k1, i1, hy1, hy2⟩ := isInt_inv hint (hev y)
  have hck := fun b => checkKey_run (P := P) hk b (ev' y) w
  split at h
  · rename_i hx
    cases h
    have hxr := hev x; rw [hx] at hxr
    have hxu : ev' x = .map none := by generalize ev' x = u at hxr; cases hxr; rfl
    refine Snd.pure hR (u := if ok then .tuple #[zv, .bool false] else zv) ?_ ?_
    · have := hck true
      simp [execOp, ho, Instr.lookup, run_underlying ht, hxu, this, Instr.findKey, run_underlying hk, Instr.findNow, hzero]
    · cases ok with
      | true =>
        simp only [if_true, hzv]
        exact Rep.tup_mk (cs := [zv, .bool false]) (us := [zv, .bool false]) (RepL.cons hzr (RepL.cons (.bool false) (RepL.nil _ _)))
      | false => simpa [hzv] using hzr
  · rename_i r hx
    have hxr := hev x; rw [hx] at hxr
    have hxu : ev' x = .map (some (E.ρ r).block) := by generalize ev' x = u at hxr; cases hxr; rfl
    split at h
    · rename_i es hg
      obtain ⟨b, es', clk, e1, e2, e3, r1, r2⟩ := hR.obj r _ hg
      have hgo : (getObj b).run P w = .ok (.map es' clk) w := by simp [getObj, Sem.run, e3]
      have hck' := hck es'.isEmpty
      split at h
      · rename_i hf
        cases h
        obtain ⟨h1, _⟩ := find_run (kd := kd) (hev y) es es'.toList 0 _ hf r1
        refine Snd.pure hR (u := if ok then .tuple #[zv, .bool false] else zv) ?_ ?_
        · simp only [Option.map_none] at h1
          simp [execOp, ho, Instr.lookup, run_underlying ht, hxu, e1, hgo, hck', Instr.findKey, run_underlying hk, h1, hzero]
        · cases ok with
          | true =>
            simp only [if_true, hzv]
            exact Rep.tup_mk (cs := [zv, .bool false]) (us := [zv, .bool false]) (RepL.cons hzr (RepL.cons (.bool false) (RepL.nil _ _)))
          | false => simpa [hzv] using hzr
      · rename_i j hf
        split at h
        · rename_i kv hkv
          cases h
          obtain ⟨h1, h2⟩ := find_run (kd := kd) (hev y) es es'.toList 0 _ hf r1
          have hjl := (h2 j rfl).2
          simp only [Nat.sub_zero, Option.map_some] at hjl h1
          generalize hcv : (((es'.toList)[j]?).map (·.val)).getD undef = cv at h1
          have hval : Rep E m.next kv.2 cv := by
            refine r2.2 j _ _ (by rw [List.getElem?_map, hkv]; rfl) ?_
            rw [← hcv, List.getElem?_map, List.getElem?_eq_getElem hjl]; rfl
          refine Snd.pure hR (u := if ok then .tuple #[cv, .bool true] else cv) ?_ ?_
          · simp [execOp, ho, Instr.lookup, run_underlying ht, hxu, e1, hgo, hck', Instr.findKey, run_underlying hk, h1]
          · cases ok with
            | true =>
              simp only [if_true]
              exact Rep.tup_mk (cs := [kv.2, .bool true]) (us := [cv, .bool true]) (RepL.cons hval (RepL.cons (.bool true) (RepL.nil _ _)))
            | false => exact hval
        · cases h
      · cases h
    · cases h
  · cases h

omit hR hev in
theorem sameBits_int (n : Nat) (k : IntKind) (i : Int) : Instr.sameBits n (.int k i) (.int k i) = true := by
  cases n <;> simp [Instr.sameBits]

theorem snd_mapset {o : Oper} {t key e : TypeId} {kd : IntKind} {x y z : Operand} {v : Value} {m' : Mem} (ho : o.op = .mapUpdate t x y z ∨ o.op = .insert t x y z) (ht : P.underlying t = some (.map key e)) (hk : P.underlying key = some (.int kd))
    (h : step P (.mapset x y z) ev m = some (v, m')) : Snd P E m w B (execOp ev' o) v m' := by
  simp only [step] at h
  split at h
  case isFalse => cases h
  rename_i hint
  obtain ⟨k1, i1, hy1, hy2⟩ := isInt_inv hint (hev y)
  have hexec : (execOp ev' o).run P w = ((Instr.mapUpdate t (ev' x) (ev' y) (ev' z)).run P w).andThen fun _ w => .ok .skip w := by
    rcases ho with ho | ho <;> simp [execOp, ho]
  split at h
  · rename_i r hx
    have hxr := hev x; rw [hx] at hxr
    have hxu : ev' x = .map (some (E.ρ r).block) := by generalize ev' x = u at hxr; cases hxr; rfl
    split at h
    · rename_i es hg
      obtain ⟨b, es', clk, e1, e2, e3, r1, r2⟩ := hR.obj r _ hg
      have hgo : (getObj b).run P w = .ok (.map es' clk) w := by simp [getObj, Sem.run, e3]
      have hso : ∀ o' : Obj, (setObj b o').run P w = .ok () (w.putObj b o') := fun o' => by simp [setObj, Sem.run, e3, World.putObj]
      have hck := checkKey_run (P := P) hk false (ev' y) w
      have hgb : ∀ o' : Obj, w.grownBy (w.putObj b o') (some (E.ρ r).block) := fun o' => by rw [e1]; exact grownBy_putObj' w b o'
      have hnew : ∀ o' : Obj, (w.putObj b o').heap[b]? = some o' := fun o' => World.putObj_heap_same (Array.getElem?_eq_some_iff.1 e3).1
      split at h
      · rename_i hf
        cases h
        obtain ⟨h1, _⟩ := find_run (kd := kd) (hev y) es es'.toList 0 _ hf r1
        have hrun : (execOp ev' o).run P w = .ok .skip (w.putObj b (.map (es'.push { key := ev' y, val := ev' z, born := clk }) (clk + 1))) := by
          rw [hexec, hxu, e1]
          simp only [Instr.mapUpdate, Sem.run_bind, run_underlying ht, Result.andThen_ok, hgo, hck, Instr.findKey, run_underlying hk, h1, Option.map_none, Sem.run_pure, hso]
        obtain ⟨g1, g2⟩ := hR.set hg rfl (.map (es ++ [(ev y, ev z)])) rfl (hgb _) ⟨b, es'.push { key := ev' y, val := ev' z, born := clk }, clk + 1, e1, e2, hnew _, by
          simp only [List.map_append, Array.toList_push]; exact r1.append (RepL.cons (hev y) (RepL.nil _ _)), by
          simp only [List.map_append, Array.toList_push]; exact r2.append (RepL.cons (hev z) (RepL.nil _ _))⟩
        exact ⟨_, undef, _, E, hrun, .inr ⟨rfl, rfl⟩, g2, g1, .junk _⟩
      · rename_i j hf
        cases h
        obtain ⟨h1, h2⟩ := find_run (kd := kd) (hev y) es es'.toList 0 _ hf r1
        have hjl := (h2 j rfl).2
        simp only [Nat.sub_zero] at hjl h1
        have hjk : j < es.length := by have := r1.1; simp at this hjl; omega
        have hkj : ∃ kk, es'[j]? = some kk ∧ kk.key = ev' y := by
          have hj' : es'.toList[j]? = some es'.toList[j] := List.getElem?_eq_getElem hjl
          refine ⟨es'.toList[j], by simp, ?_⟩
          -- the key found is the one that was looked for
          have : ∀ (l : List (Value × Value)) (l' : List MapEntry) (i : Nat), findA (ev y) l i = some (some j) → RepL E m.next (l.map (·.1)) (l'.map (·.key)) → ∀ q, l'[j - i]? = some q → q.key = ev' y := by
            intro l
            induction l with
            | nil => intro l' i h; simp [findA] at h
            | cons a l ih =>
              intro l' i h hl q hq
              cases l' with
              | nil => have := hl.1; simp at this
              | cons b l' =>
                have h0 : Rep E m.next a.1 b.key := hl.2 0 a.1 b.key rfl rfl
                have hl' : RepL E m.next (l.map (·.1)) (l'.map (·.key)) := ⟨by have := hl.1; simpa using this, fun i v u h1 h2 => hl.2 (i + 1) v u (by simpa using h1) (by simpa using h2)⟩
                obtain ⟨a1, a2⟩ := a
                simp only [findA] at h
                split at h
                · rename_i hq'
                  cases h
                  simp at hq
                  subst hq
                  rw [hy1] at hq'
                  simp only at h0
                  cases a1 with
                  | int k2 i2 =>
                    simp only [keyEq] at hq'
                    split at hq'
                    · rename_i hkk
                      simp only [Option.some.injEq, beq_iff_eq] at hq'
                      rw [h0.int_inv, hy2, hkk, hq']
                    · cases hq'
                  | _ => simp [keyEq] at hq'
                · have hge := find_run (kd := kd) (hev y) l l' (i + 1) _ h hl'
                  have := hge.2 j rfl
                  have hji : j - i = (j - (i + 1)) + 1 := by omega
                  rw [hji] at hq
                  exact ih l' (i + 1) h hl' q (by simpa using hq)
                · cases h
          exact this es es'.toList 0 hf r1 _ (by rw [Nat.sub_zero]; exact hj')
        obtain ⟨kk, hkk1, hkk2⟩ := hkj
        have hsb : Instr.sameBits 10000 (ev' y) (ev' y) = true := by rw [hy2]; exact sameBits_int _ _ _
        have hrun : (execOp ev' o).run P w = .ok .skip (w.putObj b (.map (es'.modify j fun e => { e with key := ev' y, val := ev' z }) clk)) := by
          rw [hexec, hxu, e1]
          simp only [Instr.mapUpdate, Sem.run_bind, run_underlying ht, Result.andThen_ok, hgo, hck, Instr.findKey, run_underlying hk, h1, Option.map_some, Sem.run_pure, hkk1, Option.getD_some, hkk2, Instr.keyThatStays, hsb, if_true, hso]
        have hlist : (es'.modify j fun e => { e with key := ev' y, val := ev' z }).toList = es'.toList.set j { key := ev' y, val := ev' z, born := kk.born } := by
          apply List.ext_getElem?
          intro q
          simp only [Array.getElem?_toList, Array.getElem?_modify, List.getElem?_set]
          by_cases hq : j = q
          · subst hq
            rw [if_pos rfl, if_pos rfl, hkk1]
            simp at hjl
            simp [hjl]
          · simp [hq]
        obtain ⟨g1, g2⟩ := hR.set hg rfl (.map (es.set j (ev y, ev z))) rfl (hgb _) ⟨b, es'.modify j fun e => { e with key := ev' y, val := ev' z }, clk, e1, e2, hnew _, by
          rw [hlist]; simp only [List.map_set]; exact r1.set j (hev y), by
          rw [hlist]; simp only [List.map_set]; exact r2.set j (hev z)⟩
        exact ⟨_, undef, _, E, hrun, .inr ⟨rfl, rfl⟩, g2, g1, .junk _⟩
      · cases h
    · cases h
  · cases h

end
end Go.Proofs.Ytnhodgonmceojaa.Sh
