/- Each operation of the abstract memory is sound: where it answers, the model's operation answers likewise. Part 2. -/
import Derived.Test.YtnhodgonmceojaaShD
set_option linter.unusedVariables false
set_option linter.unusedSimpArgs false
namespace Go.Proofs.Ytnhodgonmceojaa.Sh
open Go.RowKit

section
variable {P : Program} {E : Env} {m : Mem} {w : World} {B : Nat}

theorem zeros_eq (e : TypeId) (n z : Nat) (zv : Array Value) (hz : zv.size = z) (h0 : 0 < z) (hc : Zc P e = zv.toList) : zeros P e n = (madeCells zv (n * z)).toList := by
  apply List.ext_getElem?
  intro i
  have hlen : ∀ k, ((List.replicate k zv.toList).flatten).length = k * z := by intro k; simp [hz]
  by_cases hi : i < n * z
  · have h1 : (zeros P e n)[i]? = zv.toList[i % z]? := by
      unfold zeros
      rw [hc]
      clear hlen
      induction n generalizing i with
      | zero => simp at hi
      | succ n ih =>
        rw [List.replicate_succ, List.flatten_cons]
        by_cases hz' : i < z
        · rw [List.getElem?_append_left (by simpa [hz] using hz'), Nat.mod_eq_of_lt hz']
        · rw [List.getElem?_append_right (by simp [hz]; omega)]
          simp only [Array.length_toList, hz]
          rw [ih (i - z) (by rw [Nat.succ_mul] at hi; omega), Nat.mod_eq_sub_mod (by omega : i ≥ z)]
    rw [h1]
    have hlt : i % z < zv.size := by rw [hz]; exact Nat.mod_lt _ h0
    have h2 : (madeCells zv (n * z)).toList[i]? = some (zv[i % zv.size]!) := by
      simp only [madeCells, Array.getElem?_toList, Array.getElem?_map, Array.getElem?_range]
      rw [if_pos hi]; rfl
    rw [h2, hz]
    simp [hlt]
  · have h1 : (zeros P e n).length = n * z := by unfold zeros; rw [hc]; exact hlen n
    rw [List.getElem?_eq_none (by omega), List.getElem?_eq_none (by simp [madeCells]; omega)]

variable {ev ev' : Operand → Value} (hR : Rel E m w B) (hev : ∀ x, Rep E m.next (ev x) (ev' x))
include hR hev

omit hR in
theorem bslice_run {o : Oper} {t e : TypeId} {z len : Nat} {parts : Array (Nat × Operand)} {aps : List (Nat × Nat × Operand)} {c : List Value} (ho : o.op = .buildSlice t len parts) (ht : P.underlying t = some (.slice e)) (hz : tsz P e = some z)
    (hk : zok P e z = true) (h0 : 0 < z) (hfit : len * z ≤ 16777216) (hp : partsOf (fun i => some (i * z, z)) parts.toList = some aps) (hb : buildA (zeros P e len) (aps.map fun p => (p.1, p.2.1, ev p.2.2)) = some c) :
    ∃ s, RepL E m.next c s ∧ s.length = len * z ∧ ∀ w, (execOp ev' o).run P w = .ok (.value (.slice (some ⟨w.heap.size, 0, none⟩) len len)) (w.alloc (.cells s.toArray e (0, 0))) := by
  obtain ⟨i, zv, hi, hz0, hc, hl, hs, _⟩ := zok_info hk
  obtain ⟨i', hi', hz'⟩ := tsz_info hz
  rw [hi] at hi'; cases hi'
  have hzs : zv.cells.size = z := by rw [hc] at hl; simpa using hl
  have hzeros : (zeros P e len).all simple = true := by
    unfold zeros
    rw [List.all_eq_true]
    intro x hx
    obtain ⟨l, hl1, hl2⟩ := List.mem_flatten.1 hx
    rw [List.eq_of_mem_replicate hl1] at hl2
    exact List.all_eq_true.1 hs x hl2
  have hzl : (zeros P e len).length = len * z := by unfold zeros; simp [hl]
  obtain ⟨s, hs1, hs2, hs3⟩ := fill_rep hev (fun i => some (i * z, z)) parts.toList aps (zeros P e len) (zeros P e len) c hp (simple_repL hzeros _ _) hb
  have hsl : s.length = len * z := by rw [← hs2.1, hs3, hzl]
  refine ⟨s, hs2, hsl, fun w => ?_⟩
  have hfill : Instr.fill (fun i => some (i * z, z)) (madeCells zv.cells (len * z)) (parts.map fun (i, x) => (i, ev' x)).toList = some s.toArray := by
    rw [zeros_eq e len z zv.cells hzs h0 hc] at hs1
    simpa using hs1
  have hn : ¬ (16777216 < len * z) := by omega
  by_cases hlz : len * z = 0
  · rw [hlz] at hfill
    have hfill' : Instr.fill (fun i => some (i * z, z)) #[] (List.map (fun x => (x.fst, ev' x.snd)) parts.toList) = some s.toArray := by
      rw [show madeCells zv.cells 0 = #[] from by simp [madeCells, Array.range_zero']] at hfill
      simpa using hfill
    have hmz : ∀ f : Nat → Value, Array.map f (Array.range 0) = #[] := fun f => by simp [Array.range_zero']
    simp only [execOp, ho, Instr.buildSlice, Sem.run_bind, run_underlying ht, Result.andThen_ok, sizeOf, typeInfo, run_program, hi, Sem.run_pure, hz', hlz, if_true]
    simp [hmz, hfill', newRow]
  · have hfill' := hfill
    simp only [Array.toList_map, madeCells] at hfill'
    simp only [execOp, ho, Instr.buildSlice, Sem.run_bind, run_underlying ht, Result.andThen_ok, sizeOf, typeInfo, run_program, hi, Sem.run_pure, hz', hlz, if_false, zeroValue, hz0]
    simp [hn, hfill', newRow, hi, hz0]
theorem snd_bslice {o : Oper} {t e : TypeId} {z len : Nat} {parts : Array (Nat × Operand)} {aps : List (Nat × Nat × Operand)} {v : Value} {m' : Mem} (ho : o.op = .buildSlice t len parts) (ht : P.underlying t = some (.slice e)) (hz : tsz P e = some z)
    (hk : zok P e z = true) (h0 : 0 < z) (hfit : len * z ≤ 16777216) (hp : partsOf (fun i => some (i * z, z)) parts.toList = some aps) (h : step P (.bslice e z len aps) ev m = some (v, m')) : Snd P E m w B (execOp ev' o) v m' := by
  simp only [step] at h
  obtain ⟨c, hb, hcv⟩ := Option.map_eq_some_iff.1 h
  cases hcv
  have hle : len ≤ 16777216 := by
    have := Nat.le_mul_of_pos_right len h0
    omega
  obtain ⟨s, hs2, hsl, hrun⟩ := bslice_run hev ho ht hz hk h0 hfit hp hb
  refine Snd.alloc hR (us := s) ?_ (hrun w) (Rep.newSlice _ _ _ _ _ _ _ (Nat.le_refl _) ⟨fun _ => rfl, fun h => by unfold big at h; omega⟩ (fun h => by unfold big at h; omega) (by unfold maxLen; omega))
  rw [hs2.1, List.take_length]; exact hs2

theorem snd_ld1 {o : Oper} {t : TypeId} {x : Operand} {v : Value} {m' : Mem} (ho : o.op = .load t x) (hu : ∃ d, P.underlying t = some d ∧ (∀ f, d ≠ .struct f) ∧ ∀ n e, d ≠ .array n e) (h : step P (.ld1 x) ev m = some (v, m')) : Snd P E m w B (execOp ev' o) v m' := by
  simp only [step] at h
  split at h
  · rename_i a hx
    obtain ⟨v', hv, he⟩ := Option.map_eq_some_iff.1 h
    cases he
    have hp := hev x; rw [hx] at hp
    obtain ⟨hp1, _, _⟩ := hp.ptr_inv
    obtain ⟨u, hu1, hu2⟩ := hR.cell hv
    refine Snd.pure hR (u := u) ?_ hu2
    obtain ⟨d, hd, hd1, hd2⟩ := hu
    have hu1' : w.cell? (E.emb a) = some u := hu1
    have hag : (isAgg t).run P w = .ok false w := by
      cases d <;> first | exact absurd rfl (hd1 _) | exact absurd rfl (hd2 _ _) | simp [isAgg, run_underlying hd]
    simp [execOp, ho, Instr.loadAt, hp1, Instr.sureAddr, loadVar, hag, hu1']
  · cases h

theorem snd_ldN {o : Oper} {t : TypeId} {n : Nat} {x : Operand} {v : Value} {m' : Mem} (ho : o.op = .load t x) (hu : (∃ f, P.underlying t = some (.struct f)) ∨ ∃ k e, P.underlying t = some (.array k e)) (hz : tsz P t = some n)
    (h : step P (.ldN n x) ev m = some (v, m')) : Snd P E m w B (execOp ev' o) v m' := by
  simp only [step] at h
  split at h
  · rename_i a hx
    obtain ⟨v', hv, he⟩ := Option.map_eq_some_iff.1 h
    cases he
    have hp := hev x; rw [hx] at hp
    obtain ⟨hp1, _, _⟩ := hp.ptr_inv
    obtain ⟨hl, us, hus1, hus2⟩ := hR.cells hv
    obtain ⟨i, hi, hiz⟩ := tsz_info hz
    have hul : us.length = n := by rw [← hus1.1]; exact hl
    have hld : (loadCells (E.emb a) n).run P w = .ok us.toArray w := by
      rw [← hul]; exact run_loadCells_list w (E.emb a) us hus2
    refine Snd.pure hR (u := .agg us.toArray) ?_ (Rep.agg_mk hus1)
    rcases hu with ⟨f, hf⟩ | ⟨k, e, hf⟩ <;>
      simp [execOp, ho, Instr.loadAt, hp1, Instr.sureAddr, loadVar, isAgg, run_underlying hf, sizeOf, typeInfo, hi, hiz, hld]
  · cases h

omit hev in
theorem Rel.setRow {i o : Nat} {c vs us : List Value} {t : TypeId} {z : Nat} (hg : m.get i = some (.cells c t z)) (hr : RepL E m.next vs us) (hfit : o + vs.length ≤ c.length) (h1 : ∀ u ∈ us, u.oneCell' = true) :
    ∃ w', (storeCells ((E.ρ i).add o) us).run P w = .ok () w' ∧ Rel E (m.set i (.cells (splice c o vs) t z)) w' B ∧ Evo E m w E (m.set i (.cells (splice c o vs) t z)) w' := by
  obtain ⟨b, ob, cs, e1, e2, e3, e4, e5, e7, e6⟩ := hR.obj i _ hg
  have hul : us.length = vs.length := hr.1.symm
  have hrun := run_storeCells_at P b (ob + o) t us 0 cs w e3 (by rw [hul]; omega) h1
  simp only [Nat.add_zero] at hrun
  refine ⟨w.setRow b (cs.toList.take (ob + o) ++ us ++ cs.toList.drop (ob + o + us.length)).toArray, ?_, ?_⟩
  · rw [e1, add_mk]; exact hrun
  · refine hR.set hg rfl _ rfl ?_ ?_
    · rw [e1]; exact ⟨rfl, rfl, rfl, by simp, fun k _ hk => setRow_other w b k _ (fun h => hk (by simp [h]))⟩
    · refine ⟨b, ob, _, e1, e2, setRow_heap w b cs _ t _ e3, ?_, ?_, e7, ?_⟩
      · simp only [List.size_toArray, List.length_append, List.length_take, List.length_drop, Array.length_toList]
        omega
      · simp only [splice_length]; omega
      · rw [splice_length]
        have hlen2 : ob + c.length ≤ cs.toList.length := by simp; omega
        simp only [List.toList_toArray]
        have : ((cs.toList.take (ob + o) ++ us ++ cs.toList.drop (ob + o + us.length)).drop ob).take c.length = splice ((cs.toList.drop ob).take c.length) o us := by
          rw [splice_eq us _ o (by simp; simp at hlen2; omega)]
          apply List.ext_getElem?
          intro j
          simp only [List.getElem?_take, List.getElem?_append, List.getElem?_drop, List.length_take, List.length_append, List.length_drop, Array.length_toList]
          have ha : min (ob + o) cs.size = ob + o := by simp at hlen2; omega
          have hb : min o (min c.length (cs.size - ob)) = o := by simp at hlen2; omega
          simp only [ha, hb]
          by_cases h1 : j < c.length
          · simp only [h1, if_true]
            by_cases h2 : j < o
            · have h3 : ob + j < ob + o + us.length := by omega
              have h4 : ob + j < ob + o := by omega
              have h5 : j < o + us.length := by omega
              simp [h2, h3, h4, h5]
            · by_cases h3 : j < o + us.length
              · have h4 : ob + j < ob + o + us.length := by omega
                have h5 : ¬ ob + j < ob + o := by omega
                have h6 : ob + j - (ob + o) = j - o := by omega
                simp [h2, h3, h4, h5, h6]
              · have h4 : ¬ ob + j < ob + o + us.length := by omega
                have h5 : o + us.length + (j - (o + us.length)) < c.length := by omega
                have h6 : ob + o + us.length + (ob + j - (ob + o + us.length)) = ob + (o + us.length + (j - (o + us.length))) := by omega
                simp [h3, h4, h5, h6]
          · have h3 : ¬ j < o + us.length := by omega
            have h4 : ¬ o + us.length + (j - (o + us.length)) < c.length := by omega
            simp [h1, h3, h4]
        rw [this]
        exact RepL.splice o e6 hr

theorem snd_st {o : Oper} {t : TypeId} {n : Nat} {x y : Operand} {v : Value} {m' : Mem} (ho : o.op = .store t x y) (hz : tsz P t = some n) (h : step P (.st n x y) ev m = some (v, m')) : Snd P E m w B (execOp ev' o) v m' := by
  simp only [step] at h
  split at h
  · rename_i a hx
    split at h
    · rename_i c ty z hg
      split at h
      · rename_i hc
        obtain ⟨c1, c2, c3, c4⟩ := hc
        cases h
        have hp := hev x; rw [hx] at hp
        obtain ⟨hp1, _, _⟩ := hp.ptr_inv
        have hcells := (hev y).cells c1
        obtain ⟨i, hi, hiz⟩ := tsz_info hz
        have hlen : (ev y).cells.toList.length = n := by simpa using c2
        obtain ⟨w', hw1, hw2, hw3⟩ := hR.setRow (P := P) (o := a.off) hg hcells (by omega) (fun u hu => by
          obtain ⟨j, hju⟩ := List.mem_iff_getElem?.1 hu
          have hjl : j < (ev y).cells.toList.length := by rw [hcells.1]; exact (List.getElem?_eq_some_iff.1 hju).1
          have hok := List.all_eq_true.1 c4 _ (List.mem_of_getElem? (List.getElem?_eq_getElem hjl))
          exact ((hcells.2 j _ _ (List.getElem?_eq_getElem hjl) hju).okCell hok).2)
        have hsz : (ev' y).cells.size = n := by have := hcells.1; simp at this; omega
        refine ⟨.skip, undef, w', E, ?_, .inr ⟨rfl, rfl⟩, hw3, hw2, .junk _⟩
        have hw1' : (storeCells (E.emb a) (ev' y).cells.toList).run P w = .ok () w' := hw1
        simp [execOp, ho, Instr.storeAt, hp1, Instr.sureAddr, storeVar, sizeOf, typeInfo, hi, hiz, hsz, hw1']
      · cases h
    · cases h
  · cases h

theorem snd_nilck {o : Oper} {x : Operand} {v : Value} {m' : Mem} (ho : o.op = .nilCheck x) (h : step P (.nilck x) ev m = some (v, m')) : Snd P E m w B (execOp ev' o) v m' := by
  simp only [step] at h
  split at h <;> cases h
  · rename_i a hx
    have hp := hev x; rw [hx] at hp
    refine Snd.pure hR ?_ hp
    rw [hp.ptr_inv.1]
    simp [execOp, ho, hp.ptr_inv.1]
  · rename_i f xs ys hx
    have hp := hev x; rw [hx] at hp
    generalize hu : ev' x = u at hp
    refine Snd.pure hR ?_ hp
    cases hp
    simp [execOp, ho, hu]
  · rename_i t y hx
    have hp := hev x; rw [hx] at hp
    generalize hu : ev' x = u at hp
    refine Snd.pure hR ?_ hp
    cases hp
    simp [execOp, ho, hu]

omit hR hev in
theorem bin_run {op : BinOp} {t : TypeId} {x y : Operand} {a b v : Value} (h : binA op a b = some v) :
    ((eqGuard op t x y a b).run P w = .ok () w ∧ (binOp op t a b).run P w = .ok v w) ∧ ∃ k i, v = .int k i ∨ ∃ q, v = .bool q := by
  unfold binA at h
  split at h
  · rename_i k a k' b
    have hg : (eqGuard op t x y (.int k a) (.int k' b)).run P w = .ok () w := by
      cases op <;> simp [eqGuard]
    refine ⟨⟨hg, ?_⟩, ?_⟩
    · cases op <;> simp only at h <;>
        first
          | (split at h
             · cases h
             · rename_i hc
               cases h
               simp [binOp, Op.shift, hc])
          | (split at h
             · cases h
             · rename_i hk
               have hk' : k = k' := Classical.not_not.1 hk
               subst hk'
               first
                 | (cases h; simp [binOp, Op.intArith, Op.intBits, Op.intCmp]; done)
                 | (split at h
                    · cases h
                    · rename_i hb
                      cases h
                      simp [binOp, Op.intDiv, hb])
                 | cases h)
    · cases op <;> simp only at h <;> (repeat' split at h) <;> first | (cases h; exact ⟨.i8, 0, .inr ⟨_, rfl⟩⟩) | (cases h; exact ⟨_, _, .inl rfl⟩) | cases h
  · cases h

theorem snd_bin {o : Oper} {op : BinOp} {t t2 : TypeId} {x y : Operand} {v : Value} {m' : Mem} (ho : o.op = .binOp op t x y t2) (h : step P (.bin op x y) ev m = some (v, m')) : Snd P E m w B (execOp ev' o) v m' := by
  simp only [step] at h
  obtain ⟨v', hv, he⟩ := Option.map_eq_some_iff.1 h
  cases he
  have hx : ∀ z, (∃ k i, ev z = .int k i) → ev' z = ev z := by
    rintro z ⟨k, i, hz⟩
    have := hev z; rw [hz] at this ⊢; exact this.int_inv
  have hxy : ev' x = ev x ∧ ev' y = ev y := by
    unfold binA at hv
    split at hv
    · rename_i k a k' b h1 h2; exact ⟨hx x ⟨k, a, h1⟩, hx y ⟨k', b, h2⟩⟩
    · cases hv
  obtain ⟨⟨h1, h2⟩, k, i, h3⟩ := bin_run (P := P) (w := w) (t := t) (x := x) (y := y) hv
  refine Snd.pure hR (u := v) ?_ ?_
  · simp [execOp, ho, hxy.1, hxy.2, h1, h2]
  · rcases h3 with rfl | ⟨q, rfl⟩
    · exact .int _ _
    · exact .bool _

omit hR hev in
theorem eqBool_run {t : TypeId} (hu : P.underlying t = some .bool) (a b : Bool) (w : World) : (Op.equal t (.bool a) (.bool b)).run P w = .ok (a == b) w := by
  have : ∀ d, (Op.equalIn (d + 1) t (.bool a) (.bool b)).run P w = .ok (a == b) w := fun d => by
    rw [Op.equalIn]
    simp [run_underlying hu]
  exact this 9999

theorem snd_beq {o : Oper} {op : BinOp} {t t2 : TypeId} {x y : Operand} {v : Value} {m' : Mem} {ng : Bool} (ho : o.op = .binOp op t x y t2) (hop : (op = .eql ∧ ng = false) ∨ (op = .neq ∧ ng = true)) (hu : P.underlying t = some .bool)
    (h : step P (.beq ng x y) ev m = some (v, m')) : Snd P E m w B (execOp ev' o) v m' := by
  simp only [step] at h
  split at h
  · rename_i a b h1 h2
    cases h
    have hx := hev x; rw [h1] at hx
    have hy := hev y; rw [h2] at hy
    refine Snd.pure hR (u := .bool ((a == b) != ng)) ?_ (.bool _)
    rcases hop with ⟨rfl, rfl⟩ | ⟨rfl, rfl⟩ <;>
      simp [execOp, ho, hx.bool_inv, hy.bool_inv, eqGuard, binOp.eq_20, binOp.eq_21, binOp, eqBool_run hu]
  · cases h

theorem snd_not {o : Oper} {t : TypeId} {x : Operand} {v : Value} {m' : Mem} (ho : o.op = .unOp .not t x) (h : step P (.not x) ev m = some (v, m')) : Snd P E m w B (execOp ev' o) v m' := by
  simp only [step] at h
  split at h
  · rename_i b h1
    cases h
    have hx := hev x; rw [h1] at hx
    refine Snd.pure hR (u := .bool !b) ?_ (.bool _)
    simp [execOp, ho, hx.bool_inv, Op.unary]
  · cases h

theorem snd_neg {o : Oper} {t : TypeId} {x : Operand} {v : Value} {m' : Mem} (ho : o.op = .unOp .neg t x) (h : step P (.neg x) ev m = some (v, m')) : Snd P E m w B (execOp ev' o) v m' := by
  simp only [step] at h
  split at h
  · rename_i k i h1
    cases h
    have hx := hev x; rw [h1] at hx
    refine Snd.pure hR (u := .int k (k.wrap (0 - i))) ?_ (.int _ _)
    simp [execOp, ho, hx.int_inv, Op.unary, Op.intArith]
  · cases h

theorem snd_conv {o : Oper} {src dst : TypeId} {k k0 : IntKind} {x : Operand} {v : Value} {m' : Mem} (ho : o.op = .convert src dst x) (hs : P.underlying src = some (.int k0)) (hd : P.underlying dst = some (.int k)) (h : step P (.conv k x) ev m = some (v, m')) :
    Snd P E m w B (execOp ev' o) v m' := by
  simp only [step] at h
  split at h
  · rename_i k1 i h1
    cases h
    have hx := hev x; rw [h1] at hx
    refine Snd.pure hR (u := .int k (k.wrap i)) ?_ (.int _ _)
    simp [execOp, ho, hx.int_inv, convert, run_underlying hs, run_underlying hd, Conv.intToInt]
  · cases h

theorem snd_iface {o : Oper} {t : TypeId} {x : Operand} {v : Value} {m' : Mem} (ho : o.op = .makeInterface t x) (hu : ∃ d, P.underlying t = some d ∧ ∀ ms, d ≠ .interface ms) (h : step P (.iface t x) ev m = some (v, m')) : Snd P E m w B (execOp ev' o) v m' := by
  simp only [step, Option.some.injEq, Prod.mk.injEq] at h
  obtain ⟨rfl, rfl⟩ := h
  obtain ⟨d, hd, hd1⟩ := hu
  refine Snd.pure hR (u := .iface t (ev' x)) ?_ (.iface _ _ _ (hev x))
  cases d <;> first | exact absurd rfl (hd1 _) | simp [execOp, ho, Instr.makeInterface, run_underlying hd]

omit hR in
theorem mapRep (xs : List Operand) : RepL E m.next (xs.map ev) (xs.map ev') := by
  refine ⟨by simp, fun i v u h1 h2 => ?_⟩
  rw [List.getElem?_map] at h1 h2
  obtain ⟨x, hx, rfl⟩ := Option.map_eq_some_iff.1 h1
  rw [hx] at h2; cases h2
  exact hev x

theorem snd_mkfunc {o : Oper} {f : FuncId} {first cap : Array Operand} {v : Value} {m' : Mem} (ho : o.op = .makeFunc (.func f) first cap) (h : step P (.mkfunc f first.toList cap.toList) ev m = some (v, m')) : Snd P E m w B (execOp ev' o) v m' := by
  simp only [step, Option.some.injEq, Prod.mk.injEq] at h
  obtain ⟨rfl, rfl⟩ := h
  refine Snd.pure hR (u := .func (.func f) (first.map ev') (cap.map ev')) (by simp [execOp, ho, Instr.makeFunc]) ?_
  have h1 := mapRep hev first.toList
  have h2 := mapRep hev cap.toList
  refine .func _ _ _ _ _ (by simp) (by simp) (by simp) (fun i v u a b => h1.2 i v u (by simpa using a) (by simpa using b)) (fun i v u a b => h2.2 i v u (by simpa using a) (by simpa using b))

omit hev in
theorem snd_mkmap {o : Oper} {t : TypeId} {v : Value} {m' : Mem} (ho : o.op = .makeMap t none) (h : step P .mkmap ev m = some (v, m')) : Snd P E m w B (execOp ev' o) v m' := by
  simp only [step, Option.some.injEq, Prod.mk.injEq] at h
  obtain ⟨rfl, rfl⟩ := h
  obtain ⟨h1, h2⟩ := hR.new (.map []) (.map #[] 0) 0 0 default ⟨w.heap.size, #[], 0, by simp [Env.put], hR.hB, World.alloc_heap_new _ _, RepL.nil _ _, RepL.nil _ _⟩
  refine ⟨_, .map (some w.heap.size), _, _, ?_, .inl rfl, h2, h1, ?_⟩
  · simp [execOp, ho, Instr.makeMap]
  · have := Rep.map (E := E.put m.next ⟨w.heap.size, 0, none⟩ 0 0 default) (n := (m.new (.map [])).next) m.next (by simp [Mem.new])
    simpa [Env.put] using this

end
end Go.Proofs.Ytnhodgonmceojaa.Sh
