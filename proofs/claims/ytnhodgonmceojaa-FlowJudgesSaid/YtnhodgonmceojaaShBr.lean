/- From a contract on the abstract memory to the given statement: the arguments' memory as views, row by row. -/
import Derived.Test.YtnhodgonmceojaaShNb
import Derived.ProofKit
import Derived.OpenShut
import Derived.JoinedCond
import Derived.ReadAgain
import Derived.Deep.Slices
import Derived.Below
set_option linter.unusedVariables false
set_option linter.unusedSimpArgs false
namespace Go.Proofs.Ytnhodgonmceojaa.Sh
open Go.RowKit Go.ChangeShapes Go.WideShapes Go.Deep

/-- A cell's value as the abstract memory has it: n blocks are there. -/
def absC (n : Nat) : Value → Value
  | .bool b => .bool b
  | .int k i => .int k i
  | .string s => .string s
  | .slice none 0 0 => .slice none 0 0
  | .slice (some a) l c => if l = 0 then .slice none 0 big else if a.block < n ∧ a.spot = none ∧ l ≤ c ∧ c ≤ maxLen then .slice (some a) l c else undef
  | _ => undef
def absV (n : Nat) : Value → Value
  | .agg cs => .agg (cs.map (absC n))
  | v => absC n v

def E0 : Env := ⟨fun i => ⟨i, 0, none⟩, fun _ => 0, fun _ => 0, fun _ => default⟩
theorem emb0 {a : Addr} (h : a.spot = none) : E0.emb a = a := by
  obtain ⟨b, o, s⟩ := a
  simp only at h
  subst h
  unfold Env.emb E0 Addr.add
  by_cases ho : o = 0
  · subst ho; simp
  · simp [ho]
theorem absC_rep (n : Nat) (v : Value) : Rep E0 n (absC n v) v := by
  unfold absC
  split
  · exact .bool _
  · exact .int _ _
  · exact .str _
  · exact .slice0
  · rename_i a l c
    split
    · rename_i h; subst h; exact .sliceE _ _
    · split
      · rename_i h0 h
        have := Rep.slice (E := E0) (n := n) a l c c h.1 h.2.1 h.2.2.1 ⟨fun _ => rfl, fun _ => by omega⟩ (fun hb => by have := maxLen_big; omega) h.2.2.2
        rw [emb0 h.2.1] at this
        exact this
      · exact .junk _
  · exact .junk _
theorem absV_rep (n : Nat) (v : Value) : Rep E0 n (absV n v) v := by
  unfold absV
  split
  · rename_i cs
    refine .agg _ _ (by simp) fun i v u h1 h2 => ?_
    rw [Array.getElem?_map, h2] at h1
    cases h1
    exact absC_rep n u
  · exact absC_rep n _
theorem absV_repL (n : Nat) (vs : List Value) : RepL E0 n (vs.map (absV n)) vs :=
  ⟨by simp, fun i v u h1 h2 => by
    rw [List.getElem?_map, h2] at h1
    cases h1
    exact absV_rep n u⟩

def mem0 (W : World) : Mem := ⟨fun i => match W.heap[i]? with
  | some (.cells cs _ _) => some (.view (cs.toList.map (absC W.heap.size)))
  | _ => none, W.heap.size⟩

theorem rel0 (W : World) : Rel E0 (mem0 W) W W.heap.size where
  lt := fun i o h => by
    simp only [mem0] at h ⊢
    split at h
    · rename_i hh; exact (Array.getElem?_eq_some_iff.1 hh).1
    · cases h
  obj := fun i o h => by
    simp only [mem0] at h ⊢
    split at h
    · rename_i cs t fr hh
      cases h
      intro j v hj
      have hi := (Array.getElem?_eq_some_iff.1 hh).1
      have ha : (E0.ρ i).add j = ⟨i, j, none⟩ := by
        unfold E0 Addr.add
        by_cases hz : j = 0
        · subst hz; simp
        · simp [hz]
      rw [ha]
      rw [List.getElem?_map] at hj
      obtain ⟨u, hu, rfl⟩ := Option.map_eq_some_iff.1 hj
      refine ⟨hi, u, ?_, absC_rep _ u⟩
      unfold World.cell?
      rw [hh]
      simpa using hu
    · cases h
  inj := fun i j o o' h1 h2 ho => by
    simp only [mem0] at h1
    split at h1
    · cases h1; cases ho
    · cases h1
  hB := Nat.le_refl _

def Γ0 : YEnv := fun _ _ _ _ => False
theorem Γ0_mono : YMono Γ0 := fun _ _ _ _ _ _ h => h.elim

theorem calls_of_acalls {P : Program} {g : FuncId} {args : Array Value} {W : World} {K : Value → Mem → Prop} (h : ACalls P Γ0 g (args.toList.map (absV W.heap.size)) (mem0 W) K) :
    Calls P g args W fun e W' => ∃ v u E' m', e = .returned u ∧ Below W.heap.size W W' ∧ Rep E' m'.next v u ∧ K v m' := by
  have := h.2 E0 W W.heap.size args.toList (rel0 W) (fun _ _ _ _ h => h.elim) (absV_repL _ _)
  rw [Array.toArray_toList] at this
  refine (callsIn_wide.1 this).mono ?_
  rintro e w' ⟨v, u, E', m', h1, h2, h3, h4, h5⟩
  exact ⟨v, u, E', m', h1, h2.below (rel0 W), h4, h5⟩

/-- Behind a call that turns nothing below. -/
theorem post_same {P : Program} {H : Type} {enc : TypeId × Value → H} {f : Func} {s : ChangeSpec} {apart fresh handsOn again : Bool} {W W' : World} {args : Array Value} {v : Value} {ds gs : List (DataW H)} {before pa pv : List MemPlace}
    (hW : DataW.Whole enc P f.params.toList s.vars apart W args.toList ds gs before)
    (hres : ∀ (b : Nat) (sp : Nat → Bool) (hd : Bool), DataW.TrodAll enc P W' b sp hd f.resultTypes.toList (v.resultList f.resultTypes.size) (s.fn H (ds ++ gs)).results [])
    (hargs : ∀ sp : Nat → Bool, (∀ p ∈ before, sp p.block = true) → DataW.TrodAll enc P W' 0 sp true f.params.toList args.toList (s.fn H (ds ++ gs)).args pa)
    (hvars : ∀ sp : Nat → Bool, (∀ p ∈ before, sp p.block = true) → DataW.TrodVars enc P W' sp s.vars (s.fn H (ds ++ gs)).vars pv)
    (hps : before = pa ++ pv) (hk : W.keptBut W' (· ∈ before)) (hfz : ∀ a : Addr, a.block < W.heap.size → W'.frozen? a = W.frozen? a)
    (hok : ∀ (j : Nat) (t : TypeId) (r : Value), f.resultTypes[j]? = some t → (v.resultList f.resultTypes.size)[j]? = some r → Value.okWide P W' .any 0 t r) :
    s.post enc P f apart fresh handsOn again W args v W' := by
  have hlt := fun p hp => hW.lt (p := p) hp
  have hold : ∀ p ∈ before, (fun b => decide (b < W.heap.size)) p.block = true := fun p hp => by simpa using hlt p hp
  refine ⟨ds, gs, before, [], pa, pv, hW, hres _ _ _, hargs _ hold, hvars _ hold, World.keptBut_mono (fun p hp => ⟨hp, ?_⟩) hk, fun _ => ?_⟩
  · rw [hps, List.mem_append] at hp
    exact Or.inr hp
  · obtain ⟨_, _, _, _, _, hz, hn⟩ := hW
    refine ⟨hok, _, _, ([] ++ pa) ++ pv, ⟨[] ++ pa, pv, trodAll_append (hargs _ (fun _ _ => rfl)) (hres _ _ _), hvars _ (fun _ _ => rfl), rfl, ?_, ?_⟩, ?_⟩
    · intro b off hp
      have hb : MemPlace.cell b off ∈ before := by rw [hps]; simpa using hp
      rw [hfz _ (hlt _ hb)]
      exact hz b off hb
    · intro ha
      have := hn ha
      rw [hps] at this
      simpa using this
    · intro p hp _
      rw [hps]
      simpa using hp

/-- A law: the call returns true, what it reads stays. -/
theorem law_contract {P : Program} {f : Func} {g : FuncId} {s : ChangeSpec} {tb : TypeId} (hlay : laidOutB P = true) (hmap : mapsRowed P = true)
    (hfull : ((List.range P.types.size).all fun t => match P.underlying t with | some (.slice e) => decide (0 < P.cellsOf e) | _ => true) = true)
    (hpar : ∀ t ∈ f.params.toList, t < P.types.size) (hvars : s.vars = []) (hres : f.resultTypes = #[tb]) (hb : P.underlying tb = some .bool)
    (hs : ∀ (H : Type) (ds : List (DataW H)), ds.length = f.params.size → s.fn H ds = { results := [.lit (.bool true)], args := ds })
    {H : Type} {enc : TypeId × Value → H} {W : World} {args : Array Value} {ds gs : List (DataW H)} {before : List MemPlace} (hW : DataW.Whole enc P f.params.toList s.vars false W args.toList ds gs before)
    (h : ACalls P Γ0 g (args.toList.map (absV W.heap.size)) (mem0 W) fun r _ => r = .bool true) :
    Calls P g args W fun e W' => ∃ v, e = .returned v ∧ s.post enc P f false true false false W args v W' := by
  refine (calls_of_acalls h).mono ?_
  rintro e W' ⟨v, u, E', m', rfl, hbel, hrep, rfl⟩
  refine ⟨u, rfl, ?_⟩
  have hu : u = .bool true := by cases hrep; rfl
  subst hu
  have hW' := hW
  obtain ⟨p, q, hA, hV, hp, hfz, hnd⟩ := hW
  have hVs : gs = [] ∧ q = [] := by rw [hvars] at hV; exact trodVars_none hV
  obtain ⟨rfl, rfl⟩ := hVs
  have hlen : ∀ {ts : List TypeId} {vs : List Value} {ds : List (DataW H)} {ps : List MemPlace}, DataW.TrodAll enc P W 0 (fun _ => true) true ts vs ds ps → ds.length = ts.length := by
    intro ts
    induction ts with
    | nil => intro vs ds ps h; obtain ⟨_, rfl, _⟩ := trodAll_nil h; rfl
    | cons t ts ih => intro vs ds ps h; obtain ⟨v, vs1, d, ds1, a, b, rfl, rfl, rfl, h1, h2⟩ := trodAll_cons h; simp [ih h2]
  have hds : ds.length = f.params.size := by rw [hlen hA]; simp
  have hfn := hs H ds hds
  have hlt : ∀ x ∈ before, x.block < W.heap.size := fun x hx => hW'.lt x hx
  have hpb : ∀ x ∈ p, x ∈ before := fun x hx => by rw [hp]; exact List.mem_append_left _ hx
  have hgo : ∀ {ts : List TypeId} {vs : List Value} {ds : List (DataW H)} {ps : List MemPlace} {sp : Nat → Bool}, DataW.TrodAll enc P W 0 sp true ts vs ds ps → (∀ x ∈ ps, x.block < W.heap.size) → DataW.TrodAll enc P W' 0 sp true ts vs ds ps := by
    intro ts
    induction ts with
    | nil => intro vs ds ps sp h _; obtain ⟨rfl, rfl, rfl⟩ := trodAll_nil h; exact trodAll_mk0
    | cons t ts ih =>
      intro vs ds ps sp h hx
      obtain ⟨v, vs1, d, ds1, a, b, rfl, rfl, rfl, ⟨n, h1⟩, h2⟩ := trodAll_cons h
      exact ⟨a, b, ⟨n, DataW.trod_carry n _ _ _ h1 fun y hy => hbel.same (hx y (List.mem_append_left _ hy))⟩, ih h2 fun y hy => hx y (List.mem_append_right _ hy), rfl⟩
  refine post_same (pa := p) (pv := []) hW' ?_ ?_ ?_ hp (hbel.frame _) ?_ ?_
  · intro b sp hd
    rw [List.append_nil, hfn, hres]
    exact trodAll_mk1 (shut_bool hb true)
  · intro sp hsp
    rw [List.append_nil, hfn]
    exact hgo (DataW.TrodAll.respare (kids_rows hlay hmap) (slices_full_of P hfull) hpar hA fun x hx => hsp x (hpb x hx)) fun x hx => hlt x (hpb x hx)
  · intro sp _
    rw [List.append_nil, hfn, hvars]
    rfl
  · intro a ha
    exact hbel.frozen ha
  · exact ok_one hres rfl (okWide_bool_mk hb _)
end Go.Proofs.Ytnhodgonmceojaa.Sh
