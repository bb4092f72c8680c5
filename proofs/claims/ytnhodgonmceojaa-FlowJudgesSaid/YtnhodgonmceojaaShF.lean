/- Each operation of the abstract memory is sound: where it answers, the model's operation answers likewise. Part 3. -/
import Derived.Test.YtnhodgonmceojaaShE
set_option linter.unusedVariables false
set_option linter.unusedSimpArgs false
namespace Go.Proofs.Ytnhodgonmceojaa.Sh
open Go.RowKit

section
variable {P : Program} {E : Env} {m : Mem} {w : World} {B : Nat}

/-- What '== nil' gives, by the model, of a value that is told. -/
theorem eqNil_run {t : TypeId} {d : TypeDesc} {x u v : Value} {y : Operand} {b : Bool} {n kd : Nat} (hx : isNilA kd x = some b) (hr : Rep E n x u) (hu : P.underlying t = some d) (hk : nilKind d y = some kd) (hy : y = .const v)
    (w : World) : (Op.equal t u v).run P w = .ok b w ∧ (eqGuard .eql t (.tmp 0) (.const v) u v).run P w = .ok () w ∧ ∀ op, (op = .eql ∨ op = .neq) → ∀ o1, (eqGuard op t o1 (.const v) u v).run P w = .ok () w := by
  subst hy
  have key : ∀ k, (Op.equalIn (k + 1) t u v).run P w = .ok b w := by
    intro k
    rw [Op.equalIn]
    simp only [Sem.run_bind, run_underlying hu, Result.andThen_ok]
    unfold nilKind at hk
    split at hk <;> cases hk <;> rename_i heq <;> cases heq
    all_goals
      unfold isNilA at hx
      cases hr <;> first | (simp [big] at hx; done) | (simp at hx; subst hx; simp; done) | (simp at hx ⊢; first | exact hx | exact hx.symm)
  have g : ∀ op, (op = .eql ∨ op = .neq) → ∀ o1, (eqGuard op t o1 (.const v) u v).run P w = .ok () w := by
    intro op hop o1
    unfold nilKind at hk
    split at hk <;> cases hk <;> rename_i heq <;> cases heq
    all_goals
      unfold isNilA at hx
      rcases hop with rfl | rfl <;> cases hr <;> first | (simp [big] at hx; done) | (simp [eqGuard]; done)
  exact ⟨key 9999, g .eql (.inl rfl) _, g⟩

variable {ev ev' : Operand → Value} (hR : Rel E m w B) (hev : ∀ x, Rep E m.next (ev x) (ev' x))
include hR hev

theorem snd_isnil {o : Oper} {op : BinOp} {t t2 : TypeId} {d : TypeDesc} {x y : Operand} {kd : Nat} {ng : Bool} {v : Value} {m' : Mem} (ho : o.op = .binOp op t x y t2) (hop : (op = .eql ∧ ng = false) ∨ (op = .neq ∧ ng = true)) (hu : P.underlying t = some d)
    (hk : nilKind d y = some kd) (hyv : ∀ c, ev' (.const c) = c) (h : step P (.isnil ng kd x) ev m = some (v, m')) : Snd P E m w B (execOp ev' o) v m' := by
  simp only [step] at h
  obtain ⟨b, hb, he⟩ := Option.map_eq_some_iff.1 h
  cases he
  have hy : ∃ c, y = .const c ∧ (c = .pointer none ∨ c = .slice none 0 0 ∨ c = .map none ∨ c = .nilFunc ∨ c = .nilIface) := by
    unfold nilKind at hk
    split at hk <;> first | (cases hk; done) | exact ⟨_, rfl, by simp⟩
  obtain ⟨c, rfl, hc⟩ := hy
  obtain ⟨h1, _, h2⟩ := eqNil_run (v := c) hb (hev x) hu hk rfl w
  have h3 := h2 op (by rcases hop with ⟨rfl, _⟩ | ⟨rfl, _⟩ <;> simp) x
  refine Snd.pure hR (u := .bool (b != ng)) ?_ (.bool _)
  have hbin : (binOp op t (ev' x) c).run P w = .ok (.bool (b != ng)) w := by
    have hx := hev x
    rcases hop with ⟨rfl, rfl⟩ | ⟨rfl, rfl⟩ <;> rcases hc with rfl | rfl | rfl | rfl | rfl <;> cases hxx : ev' x <;> simp only [binOp] <;> rw [hxx] at h1 <;> simp [h1]
  simp [execOp, ho, hyv, h3, hbin]

theorem snd_mkslice {o : Oper} {t e : TypeId} {i : TypeInfo} {x y : Operand} {v : Value} {m' : Mem} (ho : o.op = .makeSlice t x y) (ht : P.underlying t = some (.slice e)) (hi : P.info? e = some i) (hk : zok P e i.size = true) (h0 : 0 < i.size)
    (h : step P (.mkslice e i.size i.bytes x y) ev m = some (v, m')) : Snd P E m w B (execOp ev' o) v m' := by
  simp only [step] at h
  split at h
  · rename_i k1 n k2 q h1 h2
    split at h
    · rename_i hc
      obtain ⟨rfl, c1, c2, c3⟩ := hc
      cases h
      obtain ⟨i', zv, hi', hz0, hcc, hl, hs, _⟩ := zok_info hk
      rw [hi] at hi'; cases hi'
      have hzs : zv.cells.size = i.size := by rw [hcc] at hl; simpa using hl
      have hx := hev x; rw [h1] at hx
      have hy := hev y; rw [h2] at hy
      have hzl : (zeros P e n.toNat).length = n.toNat * i.size := by unfold zeros; simp [hl]
      have hzeros : (zeros P e n.toNat).all simple = true := by
        unfold zeros
        rw [List.all_eq_true]
        intro z hz
        obtain ⟨l, hl1, hl2⟩ := List.mem_flatten.1 hz
        rw [List.eq_of_mem_replicate hl1] at hl2
        exact List.all_eq_true.1 hs z hl2
      have hzb : 9223372036854775807 < big := by unfold big; omega
      refine Snd.alloc hR (us := zeros P e n.toNat) ?_ ?_ (Rep.newSlice _ _ _ _ _ _ _ (Nat.le_refl _) ⟨fun _ => rfl, fun h => by omega⟩ (fun h => by omega) (by unfold maxLen; omega))
      · rw [List.take_length]; exact simple_repL hzeros _ _
      · have := run_make (P := P) w t e i zv ht hi hz0 k1 k2 n n c1 (Int.le_refl _) c3 c2
        rw [zeros_eq e n.toNat i.size zv.cells hzs h0 hcc]
        simp only [execOp, ho, hx.int_inv, hy.int_inv, Sem.run_bind, this, Result.andThen_ok, Sem.run_pure, Array.toArray_toList]
    · cases h
  · cases h

omit hR hev in
theorem natOf_rep {n : Nat} {v u : Value} {k : Nat} (h : natOf v = some k) (hr : Rep E n v u) : ∃ kd i, u = .int kd i ∧ 0 ≤ i ∧ i.toNat = k := by
  unfold natOf at h
  split at h
  · split at h
    · cases h; rename_i kd i hi; exact ⟨kd, i, hr.int_inv, hi, rfl⟩
    · cases h
  · cases h
omit hR hev in
theorem run_bound {kd : IntKind} {i : Int} {y : Nat} (code : BoundsCode) (h0 : 0 ≤ i) (h1 : i.toNat ≤ y) (w : World) : (Instr.sliceBound (.int kd i) y code).run P w = .ok i.toNat w := by
  unfold Instr.sliceBound
  have : i ≤ y := by omega
  simp [asIntOf, h0, this]

omit hR in
/-- The three bounds of a slice expression. -/
theorem bounds_run (isS : Bool) {lo hi mx : Option Operand} {len cap l h q : Nat} (w : World) (hl : boundA 0 (lo.map ev) = some l) (hh : boundA len (hi.map ev) = some h) (hq : boundA cap (mx.map ev) = some q) (h1 : l ≤ h) (h2 : h ≤ q) (h3 : q ≤ cap)
    (hm : mx.isSome = true → hi.isSome = true) (hlen : hi = none → len ≤ cap) : (Instr.sliceBounds isS len cap (lo.map ev') (hi.map ev') (mx.map ev')).run P w = .ok (l, h, q) w := by
  have get : ∀ (o : Option Operand) (d k : Nat), boundA d (o.map ev) = some k → (o = none ∧ d = k) ∨ ∃ x kd i, o = some x ∧ ev' x = .int kd i ∧ 0 ≤ i ∧ i.toNat = k := by
    intro o d k hk
    cases o with
    | none => simp [boundA] at hk; exact .inl ⟨rfl, hk⟩
    | some x =>
      simp only [Option.map_some, boundA] at hk
      obtain ⟨kd, i, e1, e2, e3⟩ := natOf_rep hk (hev x)
      exact .inr ⟨x, kd, i, rfl, e1, e2, e3⟩
  have hb := fun (kd : IntKind) (i : Int) (y : Nat) (code : BoundsCode) (a : 0 ≤ i) (b : i.toNat ≤ y) => run_bound (P := P) (kd := kd) code a b w
  unfold Instr.sliceBounds
  rcases get mx cap q hq with ⟨rfl, rfl⟩ | ⟨xm, km, im, rfl, em, pm, rfl⟩
  · rcases get hi len h hh with ⟨rfl, rfl⟩ | ⟨xh, kh, ih, rfl, eh, ph, rfl⟩
    · rcases get lo 0 l hl with ⟨rfl, rfl⟩ | ⟨xl, kl, il, rfl, el, pl, rfl⟩
      · simp
      · simp [el, hb kl il _ _ pl h1]
    · rcases get lo 0 l hl with ⟨rfl, rfl⟩ | ⟨xl, kl, il, rfl, el, pl, rfl⟩
      · simp [eh, hb kh ih _ _ ph h2]
      · simp [eh, hb kh ih _ _ ph h2, el, hb kl il _ _ pl h1]
  · rcases get hi len h hh with ⟨rfl, rfl⟩ | ⟨xh, kh, ih, rfl, eh, ph, rfl⟩
    · simp at hm
    · rcases get lo 0 l hl with ⟨rfl, rfl⟩ | ⟨xl, kl, il, rfl, el, pl, rfl⟩
      · simp [em, hb km im _ _ pm h3, eh, hb kh ih _ _ ph h2]
      · simp [em, hb km im _ _ pm h3, eh, hb kh ih _ _ ph h2, el, hb kl il _ _ pl h1]

omit hR hev in
theorem slice_to {n : Nat} (a : Addr) (ha : a.block < n) (hs : a.spot = none) (l c c' k z : Nat) (hl : l ≤ c') (hc : capOk c c') (hk : big ≤ c → a.off + k * z + c' * E.ζ a.block ≤ E.κ a.block) (hm : c' ≤ maxLen) :
    Rep E n (.slice (some ⟨a.block, a.off + k * z, none⟩) l c) (.slice (some ((E.emb a).add (k * z))) l c') := by
  have := Rep.slice (E := E) (n := n) ⟨a.block, a.off + k * z, none⟩ l c c' ha rfl hl hc (fun h1 => hk h1) hm
  rwa [emb_add a hs] at this

theorem snd_sl {o : Oper} {t e : TypeId} {z : Nat} {x : Operand} {lo hi mx : Option Operand} {v : Value} {m' : Mem} (ho : o.op = .slice t x lo hi mx) (ht : P.underlying t = some (.slice e)) (hz : tsz P e = some z)
    (h : step P (.sl z x lo hi mx) ev m = some (v, m')) : Snd P E m w B (execOp ev' o) v m' := by
  simp only [step] at h
  split at h
  case isFalse => cases h
  rename_i hrow
  obtain ⟨v', hv, he⟩ := Option.map_eq_some_iff.1 h
  cases he
  obtain ⟨i, hi1, hi2⟩ := tsz_info hz
  have hmb := maxLen_big
  have fin : ∀ (a : Option Addr) (len cap l hh q : Nat), ev' x = .slice a len cap → (Instr.sliceBounds true len cap (lo.map ev') (hi.map ev') (mx.map ev')).run P w = .ok (l, hh, q) w → (execOp ev' o).run P w = .ok (.value (.slice (if q = l then a else a.map (·.add (l * z))) (hh - l) (q - l))) w := by
    intro a len cap l hh q hx hb
    simp [execOp, ho, Instr.sliceAt, run_underlying ht, Instr.slice, hx, hb, sizeOf, typeInfo, hi1, hi2]
  unfold sliceA at hv
  split at hv
  · cases hv
  · rename_i hmh
    have hmh' : mx.isSome = true → hi.isSome = true := by
      intro h1
      cases hi with
      | none => exact absurd ⟨by simpa using h1, rfl⟩ hmh
      | some _ => rfl
    split at hv
    · rename_i hx
      split at hv
      · rename_i l hh q e1 e2 e3
        split at hv
        · rename_i hc
          obtain ⟨rfl, rfl, rfl⟩ := hc
          cases hv
          have hr := hev x; rw [hx] at hr
          have hxu : ev' x = .slice none 0 0 := by generalize ev' x = u at hr; cases hr; rfl
          refine Snd.pure hR (u := .slice none 0 0) ?_ .slice0
          have := fin none 0 0 0 0 0 hxu (bounds_run hev true w e1 e2 e3 (by omega) (by omega) (by omega) hmh' (fun _ => Nat.le_refl _))
          simpa using this
        · cases hv
      · cases hv
    · rename_i c _ hx
      split at hv
      · rename_i l hh e1 e2 e3
        split at hv
        · rename_i hc
          obtain ⟨rfl, rfl, rfl⟩ := hc
          cases hv
          have hr := hev x; rw [hx] at hr
          have hxu : ∃ y c', ev' x = .slice y 0 c' := by generalize ev' x = u at hr; cases hr; exact ⟨_, _, rfl⟩
          obtain ⟨y, c', hxu⟩ := hxu
          have := fin y 0 c' 0 0 c' hxu (bounds_run hev true w e1 e2 (by rw [e3]; rfl) (by omega) (by omega) (by omega) hmh' (fun _ => by omega))
          exact Snd.pure hR (u := _) this (.sliceE _ _)
        · cases hv
      · cases hv
    · rename_i a len c hx
      have hr := hev x; rw [hx] at hr
      obtain ⟨c', hxu, ha, hs, hl, hcap, hk, hmx⟩ := hr.slice_inv
      split at hv
      · rename_i l hh e1 e2
        split at hv
        · rename_i hle
          split at hv
          · rename_i mv hmv
            split at hv
            · rename_i q hq
              have hkn : ∃ kn, (if c < big then c else c - big) = kn ∧ kn ≤ c' := by
                rcases Nat.lt_or_ge c big with hb | hb
                · exact ⟨c, if_pos hb, by have := hcap.1 hb; omega⟩
                · exact ⟨c - big, if_neg (by omega), by have := hcap.2 hb; omega⟩
              obtain ⟨kn, hkn1, hkn2⟩ := hkn
              rw [hkn1] at hv
              split at hv
              · rename_i hqc
                cases hv
                have hqc' : q ≤ c' := by omega
                have e3 : boundA c' (mx.map ev) = some q := by rw [hmv]; exact hq
                have hf := fin _ _ _ l hh q hxu (bounds_run hev true w e1 e2 e3 hle hqc.1 hqc' hmh' (fun _ => hl))
                refine Snd.pure hR (u := _) hf ?_
                have hcx : capOk (q - l) (q - l) := ⟨fun _ => rfl, fun h => by omega⟩
                by_cases hql : q = l
                · simp only [hql, if_true]
                  have := Rep.slice (E := E) (n := m.next) a (hh - l) (q - l) (q - l) ha hs (by omega) hcx (fun h => by omega) (by omega)
                  rw [hql] at this
                  exact this
                · simp only [hql, if_false, Option.map_some]
                  exact slice_to a ha hs _ _ _ l z (by omega) hcx (fun h => by omega) (by omega)
              · cases hv
            · cases hv
          · rename_i hmv
            have e3 : boundA c' (mx.map ev) = some c' := by rw [hmv]; rfl
            split at hv
            · rename_i hcb
              have hcc := hcap.1 hcb
              subst hcc
              split at hv
              · rename_i hhc
                cases hv
                have hf := fin _ _ _ l hh _ hxu (bounds_run hev true w e1 e2 e3 hle hhc (Nat.le_refl _) hmh' (fun _ => hl))
                refine Snd.pure hR (u := _) hf ?_
                have hcx : capOk (c' - l) (c' - l) := ⟨fun _ => rfl, fun h => by omega⟩
                by_cases hql : c' = l
                · subst hql
                  simp only [if_true]
                  exact Rep.slice (E := E) (n := m.next) a _ _ _ ha hs (by omega) hcx (fun h => by omega) (by omega)
                · simp only [hql, if_false, Option.map_some]
                  exact slice_to a ha hs _ _ _ l z (by omega) hcx (fun h => by omega) (by omega)
              · cases hv
            · rename_i hcb
              have hcc := hcap.2 (by omega)
              split at hv
              · rename_i hhc
                have hf := fin _ _ _ l hh _ hxu (bounds_run hev true w e1 e2 e3 hle (by omega) (Nat.le_refl _) hmh' (fun _ => hl))
                split at hv
                · rename_i hlk
                  cases hv
                  refine Snd.pure hR (u := _) hf ?_
                  have hadd : (if c' = l then some (E.emb a) else (some (E.emb a)).map (·.add (l * z))) = some ((E.emb a).add (l * z)) := by
                    by_cases hql : c' = l
                    · have : l = 0 := by omega
                      subst this
                      simp [Addr.add]
                    · simp [hql]
                  rw [hadd]
                  have hzz : E.ζ a.block = z := by
                    unfold rowOk at hrow
                    rw [hx] at hrow
                    simp only [if_neg hcb] at hrow
                    split at hrow
                    · rename_i cs0 t0 z0 hg0
                      obtain ⟨_, _, _, _, _, _, _, _, e6, _⟩ := hR.obj _ _ hg0
                      rw [e6]; simpa using hrow
                    · cases hrow
                  refine slice_to a ha hs _ _ _ l z (by omega) ⟨fun h => ?_, fun h => by omega⟩ (fun h1 => ?_) (by omega)
                  · omega
                  · have h5 := hk (by omega)
                    rw [hzz] at h5 ⊢
                    have h6 : (c' - l) * z + l * z = c' * z := by rw [← Nat.add_mul]; congr 1; omega
                    omega
                · rename_i hlk
                  cases hv
                  refine Snd.pure hR (u := _) hf ?_
                  have : hh - l = 0 := by omega
                  rw [this]
                  exact .sliceE _ _
              · cases hv
        · cases hv
      · cases hv
    · cases hv

theorem snd_slArr {o : Oper} {t e : TypeId} {n z : Nat} {x : Operand} {lo hi mx : Option Operand} {v : Value} {m' : Mem} (ho : o.op = .slice t x lo hi mx) (ht : P.underlying t = some (.array n e)) (hz : tsz P e = some z)
    (h : step P (.slArr n z x lo hi mx) ev m = some (v, m')) : Snd P E m w B (execOp ev' o) v m' := by
  simp only [step] at h
  obtain ⟨v', hv, he⟩ := Option.map_eq_some_iff.1 h
  cases he
  obtain ⟨i, hi1, hi2⟩ := tsz_info hz
  have hmb := maxLen_big
  unfold slArrA at hv
  split at hv
  · rename_i a hx
    split at hv
    · rename_i l hh q e1 e2 e3
      split at hv
      · rename_i hc
        obtain ⟨c1, c2, c3, c4, c5⟩ := hc
        cases hv
        have hr := hev x; rw [hx] at hr
        obtain ⟨hxu, ha, hs⟩ := hr.ptr_inv
        have hb := bounds_run (P := P) hev false w e1 e2 e3 c1 c2 c3 (by simpa using c5) (fun _ => Nat.le_refl _)
        have hf : (execOp ev' o).run P w = .ok (.value (.slice (some (if q = l then E.emb a else (E.emb a).add (l * z))) (hh - l) (q - l))) w := by
          simp [execOp, ho, Instr.sliceAt, run_underlying ht, Instr.sureAddr, hxu, hb, sizeOf, typeInfo, hi1, hi2]
        refine Snd.pure hR (u := _) hf ?_
        have hcx : capOk (q - l) (q - l) := ⟨fun _ => rfl, fun h => by omega⟩
        by_cases hql : q = l
        · simp only [hql, if_true]
          have := Rep.slice (E := E) (n := m.next) a (hh - l) (q - l) (q - l) ha hs (by omega) hcx (fun h => by omega) (by omega)
          rw [hql] at this
          exact this
        · simp only [hql, if_false]
          exact slice_to a ha hs _ _ _ l z (by omega) hcx (fun h => by omega) (by omega)
      · cases hv
    · cases hv
  · cases hv

end
end Go.Proofs.Ytnhodgonmceojaa.Sh
