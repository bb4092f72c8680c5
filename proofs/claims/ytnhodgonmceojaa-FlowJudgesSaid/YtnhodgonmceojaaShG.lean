/- Each operation of the abstract memory is sound: where it answers, the model's operation answers likewise. Part 4. -/
import Derived.Test.YtnhodgonmceojaaShF
set_option linter.unusedVariables false
set_option linter.unusedSimpArgs false
namespace Go.Proofs.Ytnhodgonmceojaa.Sh
open Go.RowKit

section
variable {P : Program} {E : Env} {m : Mem} {w : World} {B : Nat}
variable {ev ev' : Operand → Value} (hR : Rel E m w B) (hev : ∀ x, Rep E m.next (ev x) (ev' x))
include hR hev

theorem snd_off {o : Oper} {t : TypeId} {fields : Array Field} {fd : Field} {n f : Nat} {x : Operand} {v : Value} {m' : Mem} (ho : o.op = .fieldAddr t x f) (ht : P.underlying t = some (.struct fields)) (hf : fields[f]? = some fd) (hz : tsz P fd.type = some (n + 1))
    (h : step P (.off x fd.offset) ev m = some (v, m')) : Snd P E m w B (execOp ev' o) v m' := by
  simp only [step] at h
  split at h
  · rename_i a hx
    cases h
    have hr := hev x; rw [hx] at hr
    obtain ⟨hxu, ha, hs⟩ := hr.ptr_inv
    obtain ⟨i, hi1, hi2⟩ := tsz_info hz
    refine Snd.pure hR (u := .pointer (some ((E.emb a).add fd.offset))) ?_ ?_
    · simp [execOp, ho, Instr.fieldAt, run_underlying ht, hf, Instr.sureAddr, hxu, fieldPlace, sizeOf, typeInfo, hi1, hi2]
    · rw [← emb_add a hs]; exact .ptr _ ha rfl
  · cases h

theorem snd_ixArr {o : Oper} {t e : TypeId} {n z : Nat} {x y : Operand} {v : Value} {m' : Mem} (ho : o.op = .indexAddr t x y) (ht : P.underlying t = some (.array n e)) (hz : tsz P e = some z)
    (h : step P (.ixArr n z x y) ev m = some (v, m')) : Snd P E m w B (execOp ev' o) v m' := by
  simp only [step] at h
  split at h
  · rename_i a k j hx hy
    split at h
    · rename_i hc
      cases h
      have hr := hev x; rw [hx] at hr
      obtain ⟨hxu, ha, hs⟩ := hr.ptr_inv
      have hy' := hev y; rw [hy] at hy'
      obtain ⟨i, hi1, hi2⟩ := tsz_info hz
      refine Snd.pure hR (u := .pointer (some ((E.emb a).add (j.toNat * z)))) ?_ ?_
      · simp [execOp, ho, Instr.indexAt, run_underlying ht, hy'.int_inv, asIntOf, Instr.sureAddr, hxu, sizeOf, typeInfo, hi1, hi2, hc.1, hc.2]
      · rw [← emb_add a hs]; exact .ptr _ ha rfl
    · cases h
  · cases h

theorem snd_ixSl {o : Oper} {t e : TypeId} {z : Nat} {x y : Operand} {v : Value} {m' : Mem} (ho : o.op = .indexAddr t x y) (ht : P.underlying t = some (.slice e)) (hz : tsz P e = some z)
    (h : step P (.ixSl z x y) ev m = some (v, m')) : Snd P E m w B (execOp ev' o) v m' := by
  simp only [step] at h
  split at h
  · rename_i a n c k j hx hy
    split at h
    · rename_i hc
      cases h
      have hr := hev x; rw [hx] at hr
      obtain ⟨c', hxu, ha, hs, _⟩ := hr.slice_inv
      have hy' := hev y; rw [hy] at hy'
      obtain ⟨i, hi1, hi2⟩ := tsz_info hz
      refine Snd.pure hR (u := .pointer (some ((E.emb a).add (j.toNat * z)))) ?_ ?_
      · simp [execOp, ho, Instr.indexAt, run_underlying ht, hy'.int_inv, asIntOf, hxu, sizeOf, typeInfo, hi1, hi2, hc.1, hc.2]
      · rw [← emb_add a hs]; exact .ptr _ ha rfl
    · cases h
  · cases h

omit hR hev in
theorem RepL.extract {n o k : Nat} {cs us : Array Value} (h : RepL E n cs.toList us.toList) : Rep E n (.agg (cs.extract o (o + k))) (.agg (us.extract o (o + k))) := by
  have hr := (h.drop o).take k
  have e : ∀ xs : Array Value, xs.extract o (o + k) = ((xs.toList.drop o).take k).toArray := fun xs => by
    apply Array.ext'
    simp [Array.toList_extract, List.extract_eq_take_drop]
  rw [e, e]
  exact Rep.agg_mk hr

theorem snd_fld1 {o : Oper} {t : TypeId} {fields : Array Field} {fd : Field} {f : Nat} {x : Operand} {v : Value} {m' : Mem} (ho : o.op = .field t x f) (ht : P.underlying t = some (.struct fields)) (hf : fields[f]? = some fd)
    (hu : ∃ d, P.underlying fd.type = some d ∧ (∀ f, d ≠ .struct f) ∧ ∀ n e, d ≠ .array n e) (h : step P (.fld1 fd.offset x) ev m = some (v, m')) : Snd P E m w B (execOp ev' o) v m' := by
  simp only [step] at h
  split at h
  · rename_i cs hx
    obtain ⟨v', hv, he⟩ := Option.map_eq_some_iff.1 h
    cases he
    have hr := hev x; rw [hx] at hr
    obtain ⟨us, hxu, _, hrl⟩ := hr.agg_inv
    obtain ⟨u, hu1, hu2⟩ := hrl.of_arr hv
    obtain ⟨d, hd, hd1, hd2⟩ := hu
    refine Snd.pure hR (u := u) ?_ hu2
    have hag : (isAgg fd.type).run P w = .ok false w := by
      cases d <;> first | exact absurd rfl (hd1 _) | exact absurd rfl (hd2 _ _) | simp [isAgg, run_underlying hd]
    simp [execOp, ho, Instr.field, run_underlying ht, hf, hxu, asAgg, part, hag, hu1]
  · cases h

theorem snd_fldN {o : Oper} {t : TypeId} {fields : Array Field} {fd : Field} {n f : Nat} {x : Operand} {v : Value} {m' : Mem} (ho : o.op = .field t x f) (ht : P.underlying t = some (.struct fields)) (hf : fields[f]? = some fd)
    (hu : (∃ f, P.underlying fd.type = some (.struct f)) ∨ ∃ k e, P.underlying fd.type = some (.array k e)) (hz : tsz P fd.type = some n) (h : step P (.fldN fd.offset n x) ev m = some (v, m')) : Snd P E m w B (execOp ev' o) v m' := by
  simp only [step] at h
  split at h
  · rename_i cs hx
    split at h
    · cases h
      have hr := hev x; rw [hx] at hr
      obtain ⟨us, hxu, _, hrl⟩ := hr.agg_inv
      obtain ⟨i, hi1, hi2⟩ := tsz_info hz
      refine Snd.pure hR (u := .agg (us.extract fd.offset (fd.offset + n))) ?_ hrl.extract
      rcases hu with ⟨g, hg⟩ | ⟨k, e, hg⟩ <;>
        simp [execOp, ho, Instr.field, run_underlying ht, hf, hxu, asAgg, part, isAgg, run_underlying hg, sizeOf, typeInfo, hi1, hi2]
    · cases h
  · cases h

theorem snd_ixVal1 {o : Oper} {t e : TypeId} {n : Nat} {x y : Operand} {v : Value} {m' : Mem} (ho : o.op = .index t x y) (ht : P.underlying t = some (.array n e)) (hz : tsz P e = some 1)
    (hu : ∃ d, P.underlying e = some d ∧ (∀ f, d ≠ .struct f) ∧ ∀ n e, d ≠ .array n e) (h : step P (.ixVal1 n x y) ev m = some (v, m')) : Snd P E m w B (execOp ev' o) v m' := by
  simp only [step] at h
  split at h
  · rename_i cs k j hx hy
    split at h
    · rename_i hc
      obtain ⟨v', hv, he⟩ := Option.map_eq_some_iff.1 h
      cases he
      have hr := hev x; rw [hx] at hr
      obtain ⟨us, hxu, _, hrl⟩ := hr.agg_inv
      have hy' := hev y; rw [hy] at hy'
      obtain ⟨u, hu1, hu2⟩ := hrl.of_arr hv
      obtain ⟨d, hd, hd1, hd2⟩ := hu
      obtain ⟨i, hi1, hi2⟩ := tsz_info hz
      refine Snd.pure hR (u := u) ?_ hu2
      have hag : (isAgg e).run P w = .ok false w := by
        cases d <;> first | exact absurd rfl (hd1 _) | exact absurd rfl (hd2 _ _) | simp [isAgg, run_underlying hd]
      simp [execOp, ho, Instr.index, hy'.int_inv, asIntOf, run_underlying ht, hxu, hc.1, hc.2, sizeOf, typeInfo, hi1, hi2, part, hag, hu1]
    · cases h
  · cases h

theorem snd_ixValN {o : Oper} {t e : TypeId} {n z : Nat} {x y : Operand} {v : Value} {m' : Mem} (ho : o.op = .index t x y) (ht : P.underlying t = some (.array n e)) (hz : tsz P e = some z)
    (hu : (∃ f, P.underlying e = some (.struct f)) ∨ ∃ k e', P.underlying e = some (.array k e')) (h : step P (.ixValN n z x y) ev m = some (v, m')) : Snd P E m w B (execOp ev' o) v m' := by
  simp only [step] at h
  split at h
  · rename_i cs k j hx hy
    split at h
    · rename_i hc
      cases h
      have hr := hev x; rw [hx] at hr
      obtain ⟨us, hxu, _, hrl⟩ := hr.agg_inv
      have hy' := hev y; rw [hy] at hy'
      obtain ⟨i, hi1, hi2⟩ := tsz_info hz
      refine Snd.pure hR (u := .agg (us.extract (j.toNat * z) (j.toNat * z + z))) ?_ hrl.extract
      rcases hu with ⟨g, hg⟩ | ⟨k, e', hg⟩ <;>
        simp [execOp, ho, Instr.index, hy'.int_inv, asIntOf, run_underlying ht, hxu, hc.1, hc.2.1, sizeOf, typeInfo, hi1, hi2, part, isAgg, run_underlying hg]
    · cases h
  · cases h

theorem snd_ext {o : Oper} {x : Operand} {i : Nat} {v : Value} {m' : Mem} (ho : o.op = .extract x i) (h : step P (.ext x i) ev m = some (v, m')) : Snd P E m w B (execOp ev' o) v m' := by
  simp only [step] at h
  split at h
  · rename_i vs hx
    obtain ⟨v', hv, he⟩ := Option.map_eq_some_iff.1 h
    cases he
    have hr := hev x; rw [hx] at hr
    generalize hxu : ev' x = xu at hr
    cases hr with
    | junk u => simp at hv
    | tup _ us hsz hh =>
      have hi : i < us.size := by rw [← hsz]; exact (Array.getElem?_eq_some_iff.1 hv).1
      refine Snd.pure hR (u := us[i]) ?_ (hh i _ _ hv (Array.getElem?_eq_getElem hi))
      simp [execOp, ho, hxu, Instr.extract, Array.getElem?_eq_getElem hi]
  · cases h

theorem snd_len {o : Oper} {t : TypeId} {kd : Nat} {x : Operand} {v : Value} {m' : Mem} (ho : o.op = .call { callee := .builtin .len, args := #[x], argTypes := #[t] })
    (ht : (kd = 0 ∧ ∃ e, P.underlying t = some (.slice e)) ∨ (kd = 1 ∧ P.underlying t = some .string) ∨ (kd = 2 ∧ ∃ k e, P.underlying t = some (.map k e))) (h : step P (.len kd x) ev m = some (v, m')) : Snd P E m w B (execOp ev' o) v m' := by
  rcases ht with ⟨rfl, e, he⟩ | ⟨rfl, he⟩ | ⟨rfl, k, e, he⟩
  · cases hx : ev x with
    | slice a n c =>
      simp only [step, hx, Option.some.injEq, Prod.mk.injEq] at h
      obtain ⟨rfl, rfl⟩ := h
      have hr := hev x; rw [hx] at hr
      have : ∃ a' c', ev' x = .slice a' n c' := by generalize ev' x = u at hr; cases hr <;> exact ⟨_, _, rfl⟩
      obtain ⟨a', c', hxu⟩ := this
      refine Snd.pure hR (u := .int .i64 n) ?_ (.int _ _)
      simp [execOp, ho, resolve, invoke, builtin, Builtin.len_, run_underlying he, hxu, goInt]
    | _ => simp [step, hx] at h
  · cases hx : ev x with
    | string s =>
      simp only [step, hx, Option.some.injEq, Prod.mk.injEq] at h
      obtain ⟨rfl, rfl⟩ := h
      have hr := hev x; rw [hx] at hr
      refine Snd.pure hR (u := .int .i64 s.size) ?_ (.int _ _)
      simp [execOp, ho, resolve, invoke, builtin, Builtin.len_, run_underlying he, hr.str_inv, goInt]
    | _ => simp [step, hx] at h
  · cases hx : ev x with
    | map r =>
      have hr := hev x; rw [hx] at hr
      cases r with
      | none =>
        simp only [step, hx, Option.some.injEq, Prod.mk.injEq] at h
        obtain ⟨rfl, rfl⟩ := h
        have hxu : ev' x = .map none := by generalize ev' x = u at hr; cases hr; rfl
        refine Snd.pure hR (u := .int .i64 0) ?_ (.int _ _)
        simp [execOp, ho, resolve, invoke, builtin, Builtin.len_, run_underlying he, hxu, goInt]
      | some r =>
        simp only [step, hx] at h
        split at h
        · rename_i es hg
          cases h
          have hxu : ev' x = .map (some (E.ρ r).block) := by generalize ev' x = u at hr; cases hr; rfl
          obtain ⟨b, es', clk, e1, e2, e3, r1, r2⟩ := hR.obj r _ hg
          have hlen : es'.size = es.length := by have := r1.1; simp at this; omega
          refine Snd.pure hR (u := .int .i64 es.length) ?_ (.int _ _)
          have hgo : (getObj b).run P w = .ok (.map es' clk) w := by simp [getObj, Sem.run, e3]
          simp [execOp, ho, resolve, invoke, builtin, Builtin.len_, run_underlying he, hxu, e1, hgo, goInt, hlen]
        · cases h
    | _ => simp [step, hx] at h

omit hev in
theorem snd_lenC {o : Oper} {t e : TypeId} {n : Nat} {x : Operand} {v : Value} {m' : Mem} (ho : o.op = .call { callee := .builtin .len, args := #[x], argTypes := #[t] })
    (ht : P.underlying t = some (.array n e)) (h : step P (.lenC n) ev m = some (v, m')) : Snd P E m w B (execOp ev' o) v m' := by
  simp only [step, Option.some.injEq, Prod.mk.injEq] at h
  obtain ⟨rfl, rfl⟩ := h
  refine Snd.pure hR (u := .int .i64 n) ?_ (.int _ _)
  simp [execOp, ho, resolve, invoke, builtin, Builtin.len_, run_underlying ht, goInt]

omit hR hev in
theorem minmax_run (isMin : Bool) (f : Value → Value → Sem Value) (hf : ∀ k k' x y, f (.int k x) (.int k' y) = Pure.pure (.int k (if isMin then (if y < x then y else x) else (if y > x then y else x)))) :
    ∀ (r us : List Value) (v u y : Value) (n : Nat), minmaxA isMin v r = some y → Rep E n v u → RepL E n r us → ∃ z, (us.foldlM f u).run P w = .ok z w ∧ Rep E n y z
  | [], us, v, u, y, n, h, hr, hl => by
    simp only [minmaxA, Option.some.injEq] at h
    subst h
    have : us = [] := List.eq_nil_of_length_eq_zero hl.1.symm
    subst this
    exact ⟨u, by simp, hr⟩
  | a :: r, [], v, u, y, n, h, hr, hl => by have := hl.1; simp at this
  | a :: r, b :: us, v, u, y, n, h, hr, hl => by
    unfold minmaxA at h
    split at h
    · rename_i heq; cases heq
    · rename_i k x k' y' r' heq
      cases heq
      have hb := hl.2 0 _ b rfl rfl
      have hl' : RepL E n r us := ⟨by have := hl.1; simpa using this, fun i v u h1 h2 => hl.2 (i + 1) v u (by simpa using h1) (by simpa using h2)⟩
      obtain ⟨z, hz1, hz2⟩ := minmax_run isMin f hf r us _ _ y n h (.int _ _) hl'
      refine ⟨z, ?_, hz2⟩
      rw [hr.int_inv, hb.int_inv]
      simp only [List.foldlM_cons, hf, Sem.run_bind, Sem.run_pure, Result.andThen_ok]
      exact hz1
    · cases h

theorem snd_minmax {o : Oper} {isMin : Bool} {args : Array Operand} {argTypes : Array TypeId} {v : Value} {m' : Mem} (ho : o.op = .call { callee := .builtin (if isMin then .min else .max), args, argTypes })
    (h : step P (.minmax isMin args.toList) ev m = some (v, m')) : Snd P E m w B (execOp ev' o) v m' := by
  simp only [step] at h
  split at h
  · rename_i v0 r hx
    obtain ⟨v', hv, he⟩ := Option.map_eq_some_iff.1 h
    cases he
    have hml := mapRep hev args.toList
    rw [hx] at hml
    cases hxs : args.toList.map ev' with
    | nil => rw [hxs] at hml; have := hml.1; simp at this
    | cons u us =>
      rw [hxs] at hml
      have h0 := hml.2 0 v0 u rfl rfl
      have hl' : RepL E m.next r us := ⟨by have := hml.1; simpa using this, fun i v u h1 h2 => hml.2 (i + 1) v u (by simpa using h1) (by simpa using h2)⟩
      cases isMin with
      | true =>
        obtain ⟨z, hz1, hz2⟩ := minmax_run (P := P) (w := w) true Builtin.min2 (fun k k' x y => by simp [Builtin.min2]) r us v0 u v m.next hv h0 hl'
        refine Snd.pure hR (u := z) ?_ hz2
        simp only [if_true] at ho
        simp [execOp, ho, resolve, invoke, builtin, Builtin.min_, hxs, hz1]
      | false =>
        obtain ⟨z, hz1, hz2⟩ := minmax_run (P := P) (w := w) false Builtin.max2 (fun k k' x y => by simp [Builtin.max2]) r us v0 u v m.next hv h0 hl'
        refine Snd.pure hR (u := z) ?_ hz2
        simp only [Bool.false_eq_true, if_false] at ho
        simp [execOp, ho, resolve, invoke, builtin, Builtin.max_, hxs, hz1]
  · cases h

end
end Go.Proofs.Ytnhodgonmceojaa.Sh
