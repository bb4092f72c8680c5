/- Regions with an order that is drawn: one tree of orders is enough for all. -/
import Derived.Test.YtnhodgonmceojaaShN
set_option linter.unusedVariables false
set_option linter.unusedSimpArgs false
namespace Go.Proofs.Ytnhodgonmceojaa.Sh
open Go.RowKit

def directs (o : Oper) : List Nat := (o.after.toList.filter fun e => Region.binds .any e).map (·.on)
def okPre (g : Rg) (ops : Array Oper) : Bool :=
  (List.range g.so.length).all fun i => match ops[i]? with
    | some o => (directs o).all (fun e => (g.p i).contains e && Nat.blt e g.so.length) && (g.p i).all fun p => (directs o).any fun e => Nat.beq e p || (g.p e).contains p
    | none => false

def cnt (n : Nat) (A : Dn) : Nat := (List.range n).countP fun j => !A j

theorem cnt_add_aux {A : Dn} {i : Nat} (hA : A i = false) : ∀ l : List Nat, l.countP (fun j => !(A.add i) j) ≤ l.countP (fun j => !A j) ∧ (i ∈ l → l.countP (fun j => !(A.add i) j) < l.countP (fun j => !A j))
  | [] => ⟨Nat.le_refl _, fun h => by cases h⟩
  | x :: l => by
    obtain ⟨h1, h2⟩ := cnt_add_aux hA l
    by_cases hx : x = i
    · subst hx
      have e1 : (A.add x) x = true := Dn.add_self A x
      refine ⟨?_, fun _ => ?_⟩ <;> simp only [List.countP_cons, e1, hA] <;> simp <;> omega
    · have e1 : (A.add i) x = A x := Dn.add_ne hx
      refine ⟨?_, fun hm => ?_⟩
      · simp only [List.countP_cons, e1]; omega
      · have := h2 ((List.mem_cons.1 hm).resolve_left fun e => hx e.symm)
        simp only [List.countP_cons, e1]; omega

section
variable {P : Program} {Γ : YEnv} {N h0 B : Nat} {r : Option Nat}

theorem sopsAt_get {ops : Array Oper} : ∀ (is : List Nat) (sops : List SOp), sopsAt P N ops is = some sops → sops.length = is.length ∧ ∀ (k i : Nat), is[k]? = some i → ∃ o so, ops[i]? = some o ∧ sopOf P N ops o = some so ∧ sops[k]? = some so
  | [], sops, h => by cases h; exact ⟨rfl, fun k i hk => by simp at hk⟩
  | i :: is, sops, h => by
    simp only [sopsAt] at h
    split at h
    · rename_i so rs h1 h2
      cases h
      obtain ⟨o, ho, hso⟩ := Option.bind_eq_some_iff.1 h1
      obtain ⟨l1, l2⟩ := sopsAt_get is rs h2
      refine ⟨by simp [l1], fun k j hk => ?_⟩
      cases k with
      | zero => simp at hk; subst hk; exact ⟨o, so, ho, hso, rfl⟩
      | succ k => simp at hk; simpa using l2 k j hk
    · cases h

theorem draws_sound (hΓ : YMono Γ) {g : Rg} {ops : Array Oper} {Q : Exit → Act → World → Prop} {K : Fr → Mem → Prop} (hs : sopsAt P N ops (List.range ops.size) = some g.so) (ha : g.apart = true) (hp : okPre g ops = true) :
    ∀ (fuel : Nat) (listed : Array Bool) (t : PT) (fl : FL) (E : Env) (m : Mem) (w : World) (s : Fr) (a : Act), listed.size = ops.size → cnt g.so.length (fun j => listed.getD j true) ≤ fuel → tok g (fun j => listed.getD j true) true t = true →
      (∀ e, e < g.so.length → listed.getD e true = true → ∀ p ∈ g.p e, listed.getD p true = true) → St P Γ N h0 B r E m w s a →
      (∀ E' m' w' s' a', Evo E m w E' m' w' → St P Γ N h0 B r E' m' w' s' a' → K s' m' → Q .normal a' w') → wpP P Γ K g t fl s m → wpAnyIn (wideR r) 0 P .any ops Q fuel listed a w := by
  have hlen : g.so.length = ops.size := by simpa using (sopsAt_get _ _ hs).1
  have hget : ∀ i o, g.o i = some o → ∃ op, ops[i]? = some op ∧ sopOf P N ops op = some o := by
    intro i o ho
    have hi : i < ops.size := by rw [← hlen]; exact Rg.lt ho
    obtain ⟨op, so, h1, h2, h3⟩ := (sopsAt_get _ _ hs).2 i i (by simp [hi])
    have h4 : g.so[i]? = some o := ho
    rw [h3] at h4; cases h4
    exact ⟨op, h1, h2⟩
  have hpre : ∀ i op, ops[i]? = some op → (∀ e ∈ directs op, e ∈ g.p i ∧ e < g.so.length) ∧ ∀ p ∈ g.p i, ∃ e ∈ directs op, e = p ∨ p ∈ g.p e := by
    intro i op hop
    have := List.all_eq_true.1 hp i (List.mem_range.2 (by rw [hlen]; exact (Array.getElem?_eq_some_iff.1 hop).1))
    simp only [hop, Bool.and_eq_true, List.all_eq_true, List.any_eq_true, Bool.or_eq_true, List.contains_iff_mem] at this
    exact ⟨fun e he => ⟨(this.1 e he).1, by simpa using (this.1 e he).2⟩, fun p hp => by
      obtain ⟨e, h1, h2⟩ := this.2 p hp
      exact ⟨e, h1, h2.imp Nat.eq_of_beq_eq_true id⟩⟩
  have hft : ∀ (listed : Array Bool) (i : Nat), i < listed.size → (listed.getD i false = true ↔ listed.getD i true = true) := by
    intro listed i hi
    rw [Array.getD_eq_getD_getElem?, Array.getD_eq_getD_getElem?, Array.getElem?_eq_getElem hi]; rfl
  have hset : ∀ (listed : Array Bool) (i : Nat), i < listed.size → (fun j => (listed.setIfInBounds i true).getD j true) = Dn.add (fun j => listed.getD j true) i := by
    intro listed i hi
    funext j
    by_cases hj : j = i
    · subst hj
      rw [Dn.add_self, Array.getD_eq_getD_getElem?, Array.getElem?_setIfInBounds_self_of_lt hi]; rfl
    · rw [Dn.add_ne hj, Array.getD_eq_getD_getElem?, Array.getElem?_setIfInBounds_ne (fun e => hj e.symm), ← Array.getD_eq_getD_getElem?]
  have hready : ∀ (listed : Array Bool) i o, listed.size = ops.size → g.o i = some o → listed.getD i true = false → g.inn (fun j => listed.getD j true) i = true → i ∈ Region.ready .any ops listed := by
    intro listed i o hsz ho hi hn
    obtain ⟨op, h1, _⟩ := hget i o ho
    refine mem_ready.2 ⟨?_, op, h1, fun e he hb => ?_⟩
    · first | exact hi | (rw [← hi]; simp [Array.getD_eq_getD_getElem?])
    · have hmem := (hpre i op h1).1 e.on (List.mem_map.2 ⟨e, List.mem_filter.2 ⟨by simpa using he, hb⟩, rfl⟩)
      exact (hft listed e.on (by rw [hsz, ← hlen]; exact hmem.2)).2 (List.all_eq_true.1 hn _ hmem.1)
  have hinn : ∀ (listed : Array Bool), listed.size = ops.size → (∀ e, e < g.so.length → listed.getD e true = true → ∀ p ∈ g.p e, listed.getD p true = true) → ∀ i ∈ Region.ready .any ops listed, listed.getD i true = false ∧ g.inn (fun j => listed.getD j true) i = true ∧ ∃ o, g.o i = some o := by
    intro listed hsz hcl i hi
    obtain ⟨h1, op, h2, h3⟩ := mem_ready.1 hi
    refine ⟨h1, List.all_eq_true.2 fun p hp => ?_, ?_⟩
    · obtain ⟨e, he, h4⟩ := (hpre i op h2).2 p hp
      obtain ⟨ed, hed, rfl⟩ := List.mem_map.1 he
      have hed' := List.mem_filter.1 hed
      have hlt := ((hpre i op h2).1 ed.on he).2
      have hl := (hft listed ed.on (by rw [hsz, ← hlen]; exact hlt)).1 (h3 ed (by simpa using hed'.1) hed'.2)
      rcases h4 with rfl | h4
      · exact hl
      · exact hcl _ hlt hl p h4
    · have hi' : i < g.so.length := by rw [hlen]; exact (Array.getElem?_eq_some_iff.1 h2).1
      exact ⟨g.so[i], List.getElem?_eq_getElem hi'⟩
  have hdone : ∀ (listed : Array Bool) (t : PT) (fl : FL) (E : Env) (m : Mem) (w : World) (s : Fr) (a : Act), listed.size = ops.size → Region.ready .any ops listed = [] → tok g (fun j => listed.getD j true) true t = true → St P Γ N h0 B r E m w s a →
      (∀ E' m' w' s' a', Evo E m w E' m' w' → St P Γ N h0 B r E' m' w' s' a' → K s' m' → Q .normal a' w') → wpP P Γ K g t fl s m → Q .normal a w := by
    intro listed t fl E m w s a hsz hr ht hS hk hw
    rcases tok_front t _ true ht with ⟨rfl, _⟩ | ⟨i, o, h1, h2, h3⟩
    · exact hk _ _ _ _ _ (Evo.refl _ _ _) hS hw
    · have := hready listed i o hsz h1 h2 h3
      rw [hr] at this; cases this
  intro fuel
  induction fuel with
  | zero =>
    intro listed t fl E m w s a hsz hc ht hcl hS hk hw
    have hr : Region.ready .any ops listed = [] := by
      cases hr : Region.ready .any ops listed with
      | nil => rfl
      | cons i is =>
        obtain ⟨h1, _, o, ho⟩ := hinn listed hsz hcl i (by rw [hr]; simp)
        have := (cnt_add_aux (A := fun j => listed.getD j true) h1 (List.range g.so.length)).2 (List.mem_range.2 (Rg.lt ho))
        unfold cnt at hc
        exact absurd (Nat.lt_of_lt_of_le this hc) (Nat.not_lt_zero _)
    exact ⟨hr, hdone listed t fl E m w s a hsz hr ht hS hk hw⟩
  | succ fuel ih =>
    intro listed t fl E m w s a hsz hc ht hcl hS hk hw
    refine ⟨fun hr => hdone listed t fl E m w s a hsz hr ht hS hk hw, fun i hi => ?_⟩
    obtain ⟨h1, h2, o, ho⟩ := hinn listed hsz hcl i hi
    obtain ⟨op, hop, hso⟩ := hget i o ho
    have hisz : i < listed.size := by rw [hsz]; exact (Array.getElem?_eq_some_iff.1 hop).1
    have hsz' : (listed.setIfInBounds i true).size = ops.size := by simpa using hsz
    have hc' : cnt g.so.length (fun j => (listed.setIfInBounds i true).getD j true) ≤ fuel := by
      rw [hset listed i hisz]
      have := (cnt_add_aux (A := fun j => listed.getD j true) h1 (List.range g.so.length)).2 (List.mem_range.2 (Rg.lt ho))
      unfold cnt at hc ⊢
      exact Nat.le_of_lt_succ (Nat.lt_of_lt_of_le this hc)
    have hcl' : ∀ e, e < g.so.length → (listed.setIfInBounds i true).getD e true = true → ∀ p ∈ g.p e, (listed.setIfInBounds i true).getD p true = true := by
      intro e he h p hp
      have e1 := congrFun (hset listed i hisz) e
      have e2 := congrFun (hset listed i hisz) p
      rw [e2]
      rw [e1] at h
      by_cases hei : e = i
      · subst hei
        exact Dn.add_mono (List.all_eq_true.1 h2 p hp) e
      · rw [Dn.add_ne hei] at h
        exact Dn.add_mono (A := fun j => listed.getD j true) (hcl e he h p hp) i
    have go : ∀ (t' : PT) (fl' : FL), tok g (Dn.add (fun j => listed.getD j true) i) true t' = true → opG P Γ o (fun s' m' => wpP P Γ K g t' fl' s' m') s m →
        wpOpIn (wideR r) 0 P ops Q i (wpAnyIn (wideR r) 0 P .any ops Q fuel (listed.setIfInBounds i true)) a w := by
      intro t' fl' ht' hg
      refine opG_wp hop hso hS ?_ hg
      intro E' m' w' s' a' he hS' hw'
      exact ih _ t' fl' E' m' w' s' a' hsz' hc' (by rw [hset listed i hisz]; exact ht') hcl' hS' (fun E2 m2 w2 s2 a2 he2 => hk E2 m2 w2 s2 a2 (he.trans he2)) hw'
    cases hq : g.quiet i with
    | true =>
      obtain ⟨k1, k2⟩ := takeQ_ok (K := K) hΓ ha ho hq t _ ht h1 h2
      obtain ⟨x, e1, e2⟩ := k2 fl s m hw
      exact go _ fl k1 (opG_quiet (by simpa [Rg.quiet, ho] using hq) e1 e2)
    | false =>
      obtain ⟨chk, _, k1, k2⟩ := takeM_ok (K := K) hΓ ha ho hq t _ ht h1 h2
      exact go _ fl k1 (opG_congr hΓ (fun _ _ => rfl) (fun x m' hk => hk.2) (k2 fl s m hw))

end
end Go.Proofs.Ytnhodgonmceojaa.Sh
