/- Regions and code over the abstract memory: what is to be shown of one operation, and that it is sound. -/
import Derived.Test.YtnhodgonmceojaaShJ
import Derived.Shelf.Abstract
set_option linter.unusedVariables false
set_option linter.unusedSimpArgs false
namespace Go.Proofs.Ytnhodgonmceojaa.Sh
open Go.RowKit

structure SOp where
  dst : Option Tmp
  op : AOp
  guard : Option (Tmp × Bool)

def putO (s : Fr) (d : Option Tmp) (v : Slot) : Fr :=
  match d with
  | some d => fun j => if j = d then v else s j
  | none => s

abbrev YEnv := Nat → List Value → Mem → (Value → Mem → Prop) → Prop

section
variable (P : Program)

/-- What a loop over a function has been told of its rounds holds of every world that comes. -/
def YOk (Γ : YEnv) (E : Env) (n B : Nat) : Prop :=
  ∀ i args m1 K, Γ i args m1 K → i < n ∧ ∀ E1 w1 args', E.Agrees E1 n → n ≤ m1.next → Rel E1 m1 w1 B → RepL E1 m1.next args args' →
    ∃ fn tmps assign body, (Instr.yield (E1.ρ i).block args'.toArray).run P w1 = .ok (.round (E1.ρ i).block fn tmps assign body) w1 ∧
      RoundIn Fence.wide 0 P (E1.ρ i).block fn tmps assign body w1 fun e w2 => ∃ v u E2 m2, e = .returned u ∧ Evo E1 m1 w1 E2 m2 w2 ∧ Rel E2 m2 w2 B ∧ Rep E2 m2.next v u ∧ K v m2

theorem YOk.mono {Γ : YEnv} {E E' : Env} {n n' B : Nat} (h : YOk P Γ E n B) (ha : E.Agrees E' n) (hn : n ≤ n') : YOk P Γ E' n' B :=
  fun i args m1 K hK => ⟨by have := (h i args m1 K hK).1; omega, fun E1 w1 args' h1 h2 h3 h4 => (h i args m1 K hK).2 E1 w1 args' (ha.trans h1 hn) (by omega) h3 h4⟩

/-- A function's call, on the abstract memory. -/
def ACalls (Γ : YEnv) (g : FuncId) (args : List Value) (m : Mem) (K : Value → Mem → Prop) : Prop :=
  Enters P g ∧ ∀ E w B args', Rel E m w B → YOk P Γ E m.next B → RepL E m.next args args' →
    CallsIn Fence.wide 0 P g args'.toArray w fun e w' => ∃ v u E' m', e = .returned u ∧ Evo E m w E' m' w' ∧ Rel E' m' w' B ∧ Rep E' m'.next v u ∧ K v m'

theorem CallsIn_mono {F : Fence} {n : Nat} {f : FuncId} {args : Array Value} {w : World} {R R' : Ending → World → Prop} (h : CallsIn F n P f args w R) (hr : ∀ e w', R e w' → R' e w') : CallsIn F n P f args w R' := h.mono hr

theorem ACalls.mono {P : Program} {Γ : YEnv} {g : FuncId} {args : List Value} {m : Mem} {K K' : Value → Mem → Prop} (h : ACalls P Γ g args m K) (hk : ∀ v m', K v m' → K' v m') : ACalls P Γ g args m K' :=
  ⟨h.1, fun E w B args' h1 h2 h3 => (h.2 E w B args' h1 h2 h3).mono fun e w' ⟨v, u, E', m', a, b, c, d, k⟩ => ⟨v, u, E', m', a, b, c, d, hk _ _ k⟩⟩

def callK (Γ : YEnv) (f : Value) (args : List Value) (m : Mem) (K : Value → Mem → Prop) : Prop :=
  match f with
  | .func (.func g) first cap => ACalls P Γ g (first.toList ++ args ++ cap.toList) m K
  | .func (.yield i) first cap => first = #[] ∧ cap = #[] ∧ Γ i args m K
  | _ => False

/-- The method of a type whose receiver is the value itself. -/
def methA (t : TypeId) (name : String) : Option FuncId :=
  match P.info? t with
  | some i => match i.methods.find? (·.name == name) with
    | some mt => if mt.path.toList.isEmpty then match mt.func, P.underlying t with
      | some (f, true), some (.pointer _) => some f
      | some (f, false), some (.pointer _) => none
      | some (f, false), some _ => some f
      | _, _ => none
      else none
    | none => none
  | none => none
def invK (Γ : YEnv) (r : Value) (name : String) (args : List Value) (m : Mem) (K : Value → Mem → Prop) : Prop :=
  match r with
  | .iface t v => match methA P t name with
    | some f => ACalls P Γ f (v :: args) m K
    | none => False
  | _ => False

/-- One operation. -/
def opK (Γ : YEnv) (o : SOp) (K : Fr → Mem → Prop) (s : Fr) (m : Mem) : Prop :=
  match o.op with
  | .lit e z len parts => match buildA (zeros P e len) (parts.map fun p => (p.1, p.2.1, evalO s p.2.2)) with
    | some cs => K (putO s o.dst (.lit len cs)) m
    | none => False
  | .app1 e z bytes x t => match s t with
    | .lit k cs => cs.length = k * z ∧ ((match appL e z bytes (evalO s x) k cs m with
      | some (v, m') => K (putO s o.dst (.val v)) m'
      | none => False) ∨ (appW z bytes (evalO s x) k cs m = true ∧ K (putO s o.dst (.val (.chan none))) m))
    | _ => False
  | .call f args => callK P Γ (evalO s f) (args.map (evalO s)) m fun v m' => K (putO s o.dst (.val v)) m'
  | .invoke r name args => invK P Γ (evalO s r) name (args.map (evalO s)) m fun v m' => K (putO s o.dst (.val v)) m'
  | ao => match step P ao (evalO s) m with
    | some (v, m') => K (putO s o.dst (.val v)) m'
    | none => False

def opG (Γ : YEnv) (o : SOp) (K : Fr → Mem → Prop) (s : Fr) (m : Mem) : Prop :=
  match o.guard with
  | none => opK P Γ o K s m
  | some (g, want) => match s g with
    | .val (.bool b) => if b = want then opK P Γ o K s m else K (putO s o.dst .skip) m
    | .skip => K (putO s o.dst .skip) m
    | _ => False

def wpOps (Γ : YEnv) : List SOp → (Fr → Mem → Prop) → Fr → Mem → Prop
  | [], K, s, m => K s m
  | o :: r, K, s, m => opG P Γ o (fun s m => wpOps Γ r K s m) s m

/-! ### Compiled regions -/
def usesTmp (o : Oper) (d : Tmp) : Bool := o.op.operands.any fun | .tmp t => t == d | _ => false
def isAppOf (o : Oper) (d : Tmp) : Bool :=
  match o.op with
  | .call { callee := .builtin .append, args, .. } => match args.toList with
    | [.tmp s, .tmp x] => x == d && s != d
    | [_, .tmp x] => x == d
    | _ => false
  | _ => false
/-- What d is used for in a region: to be appended alone. -/
def appendOnly (ops : Array Oper) (d : Tmp) : Bool := (ops.toList.all fun o => !usesTmp o d || isAppOf o d) && ops.toList.any fun o => isAppOf o d
def isLit (ops : Array Oper) (t : Tmp) : Bool := ops.toList.any fun o => o.dst == some t && (match o.op with | .buildSlice .. => true | _ => false) && appendOnly ops t

def litOp : AOp → Option AOp
  | .bslice e z len parts => some (.lit e z len parts)
  | .app e z bytes s (.tmp x) => some (.app1 e z bytes s x)
  | _ => none

def plainA : AOp → Bool
  | .lit _ _ _ _ | .app1 _ _ _ _ _ => false
  | _ => true
def toLit (ops : Array Oper) (o : Oper) : Bool :=
  match o.op with
  | .buildSlice t len parts => match o.dst with
    | some d => appendOnly ops d
    | none => false
  | .call { callee := .builtin .append, args, .. } => match args.toList with
    | [_, .tmp x] => isLit ops x
    | _ => false
  | _ => false
def sopOp (ops : Array Oper) (o : Oper) : Option AOp :=
  match compOp P o.op with
  | some ao => if toLit ops o then litOp ao else if plainA ao then some ao else none
  | none => match o.op with
    | .defer _ => none
    | _ => some .bad

def sopOf (N : Nat) (ops : Array Oper) (o : Oper) : Option SOp :=
  match sopOp P ops o with
  | some ao => if o.dst.all (· < N) then match o.guard with
    | none => some ⟨o.dst, ao, none⟩
    | some (j, b) => match (ops[j]?).bind (·.dst) with
      | some g => some ⟨o.dst, ao, some (g, b)⟩
      | none => none
    else none
  | none => none

end

/-! ### What a frame stands for -/
def notOwn (E : Env) (m : Mem) (b : Nat) : Prop := ∀ i o, m.get i = some o → o.own = true → (E.ρ i).block ≠ b
def SlotOk (E : Env) (m : Mem) (w : World) (x : Slot) (u : Value) : Prop :=
  match x with
  | .val v => Rep E m.next v u
  | .lit k cs => ∃ b us ty, u = .slice (some ⟨b, 0, none⟩) k k ∧ w.heap[b]? = some (.cells us ty (0, 0)) ∧ RepL E m.next cs us.toList ∧ notOwn E m b
  | .skip => u = undef
def FR (E : Env) (m : Mem) (w : World) (N : Nat) (s : Fr) (a : Act) : Prop := a.tmps.size = N ∧ ∀ i, SlotOk E m w (s i) (a.tmps.getD i undef)
def mk (r : Nat) : Deferred := { target := .collected r, args := #[] }
def Defs (h0 : Nat) (w : World) (ds : List Deferred) : Prop := ∃ rs : List Nat, ds = rs.map mk ∧ rs.Nodup ∧ ∀ r ∈ rs, h0 ≤ r ∧ w.heap[r]? = some (.deferred (some []))
def RdOk (E : Env) (m : Mem) (w : World) (r : Option Nat) : Prop := ∀ l, r = some l → (∃ rc, w.heap[l]? = some (.loop rc)) ∧ notOwn E m l
def wideR (r : Option Nat) : Fence := { Fence.wide with round := r }

structure St (P : Program) (Γ : YEnv) (N h0 B : Nat) (r : Option Nat) (E : Env) (m : Mem) (w : World) (s : Fr) (a : Act) : Prop where
  rel : Rel E m w B
  yok : YOk P Γ E m.next B
  fr : FR E m w N s a
  defs : Defs h0 w a.defers
  h0 : h0 ≤ w.heap.size
  rd : RdOk E m w r

theorem Evo.notOwn {E E' : Env} {m m' : Mem} {w w' : World} (h : Evo E m w E' m' w') {b : Nat} (hb : b < w.heap.size) (hn : notOwn E m b) : Sh.notOwn E' m' b := by
  intro i o hi ho he
  rcases h.fresh i o hi ho with ⟨j, o', h1, h2, h3⟩ | h1
  · exact hn j o' h1 h2 (h3.trans he)
  · omega
theorem Evo.keep {E E' : Env} {m m' : Mem} {w w' : World} (h : Evo E m w E' m' w') {b : Nat} {o : Obj} (hb : w.heap[b]? = some o) (hn : Sh.notOwn E m b) : w'.heap[b]? = some o :=
  (h.same b (Array.getElem?_eq_some_iff.1 hb).1 hn).trans hb
theorem Rel.defer_notOwn {E : Env} {m : Mem} {w : World} {B : Nat} (h : Rel E m w B) {b : Nat} {d : Option (List Deferred)} (hb : w.heap[b]? = some (.deferred d)) : notOwn E m b := by
  intro i o hi ho he
  have := h.obj i o hi
  cases o with
  | cells c t z => obtain ⟨b', o', cs, e1, _, e3, _⟩ := this; rw [e1] at he; simp at he; rw [he, hb] at e3; cases e3
  | map es => obtain ⟨b', es', clk, e1, _, e3, _⟩ := this; rw [e1] at he; simp at he; rw [he, hb] at e3; cases e3
  | view c => simp [AObj.own] at ho
  | loop st pe => obtain ⟨b', e1, _, e3⟩ := this; rw [e1] at he; simp at he; rw [he, hb] at e3; cases e3
theorem Rel.above_notOwn {E : Env} {m : Mem} {w : World} {B : Nat} (h : Rel E m w B) {b : Nat} (hb : w.heap.size ≤ b) : notOwn E m b := by
  intro i o hi ho he
  obtain ⟨b', x, e1, _, e3⟩ := h.own_block hi ho
  have := (Array.getElem?_eq_some_iff.1 e3).1
  omega

theorem SlotOk.evo {E E' : Env} {m m' : Mem} {w w' : World} (h : Evo E m w E' m' w') {x : Slot} {u : Value} (hs : SlotOk E m w x u) : SlotOk E' m' w' x u := by
  cases x with
  | val v => exact Rep.mono h.ext h.next hs
  | lit k cs =>
    obtain ⟨b, us, ty, e1, e2, e3, e4⟩ := hs
    exact ⟨b, us, ty, e1, h.keep e2 e4, e3.mono h.ext h.next, h.notOwn (Array.getElem?_eq_some_iff.1 e2).1 e4⟩
  | skip => exact hs
theorem SlotOk.val {E : Env} {m : Mem} {w : World} {v u : Value} (h : Rep E m.next v u) : SlotOk E m w (.val v) u := h
theorem SlotOk.rep {E : Env} {m : Mem} {w : World} {x : Slot} {u : Value} (h : SlotOk E m w x u) : Rep E m.next x.v u := by
  cases x with
  | val v => exact h
  | lit k cs => exact .junk _
  | skip => exact .junk _

theorem Defs.evo {E E' : Env} {m m' : Mem} {w w' : World} {B h0 : Nat} (h : Evo E m w E' m' w') (hr : Rel E m w B) {ds : List Deferred} (hd : Defs h0 w ds) : Defs h0 w' ds := by
  obtain ⟨rs, h1, h2, h3⟩ := hd
  exact ⟨rs, h1, h2, fun r hr' => ⟨(h3 r hr').1, h.keep (h3 r hr').2 (hr.defer_notOwn (h3 r hr').2)⟩⟩
theorem RdOk.evo {E E' : Env} {m m' : Mem} {w w' : World} (h : Evo E m w E' m' w') {r : Option Nat} (hd : RdOk E m w r) : RdOk E' m' w' r := by
  intro l hl
  obtain ⟨⟨rc, h1⟩, h2⟩ := hd l hl
  exact ⟨⟨rc, h.keep h1 h2⟩, h.notOwn (Array.getElem?_eq_some_iff.1 h1).1 h2⟩

theorem FR.put {E : Env} {m : Mem} {w : World} {N : Nat} {s : Fr} {a : Act} (h : FR E m w N s a) {d : Option Tmp} (hd : d.all (· < N) = true) {x : Slot} {u : Value} (hv : SlotOk E m w x u) : FR E m w N (putO s d x) (a.put d u) := by
  cases d with
  | none => exact h
  | some d =>
    have hlt : d < N := by simpa using hd
    refine ⟨by simp [Act.put, h.1], fun i => ?_⟩
    simp only [putO, Act.put]
    by_cases hi : i = d
    · subst hi
      simp only [if_true]
      rw [Array.getD_eq_getD_getElem?, Array.getElem?_setIfInBounds_self_of_lt (by rw [h.1]; exact hlt)]
      exact hv
    · simp only [if_neg hi]
      rw [Array.getD_eq_getD_getElem?, Array.getElem?_setIfInBounds_ne (by omega), ← Array.getD_eq_getD_getElem?]
      exact h.2 i
theorem FR.evo {E E' : Env} {m m' : Mem} {w w' : World} {N : Nat} {s : Fr} {a : Act} (h : FR E m w N s a) (he : Evo E m w E' m' w') : FR E' m' w' N s a := ⟨h.1, fun i => (h.2 i).evo he⟩

/-- A state goes on: the memory has gone on. -/
theorem St.evo {P : Program} {Γ : YEnv} {N h0 B : Nat} {r : Option Nat} {E E' : Env} {m m' : Mem} {w w' : World} {s : Fr} {a : Act} (h : St P Γ N h0 B r E m w s a) (he : Evo E m w E' m' w') (hr : Rel E' m' w' B) : St P Γ N h0 B r E' m' w' s a where
  rel := hr
  yok := h.yok.mono P he.ext he.next
  fr := h.fr.evo he
  defs := h.defs.evo he h.rel
  h0 := Nat.le_trans h.h0 he.size
  rd := h.rd.evo he
/-- One slot has been written. -/
theorem St.put {P : Program} {Γ : YEnv} {N h0 B : Nat} {r : Option Nat} {E : Env} {m : Mem} {w : World} {s : Fr} {a : Act} (h : St P Γ N h0 B r E m w s a)
    {d : Option Tmp} (hd : d.all (· < N) = true) {x : Slot} {u : Value} (hv : SlotOk E m w x u) : St P Γ N h0 B r E m w (putO s d x) (a.put d u) where
  rel := h.rel
  yok := h.yok
  fr := h.fr.put hd hv
  defs := by
    have : (a.put d u).defers = a.defers := by cases d <;> rfl
    rw [this]; exact h.defs
  h0 := h.h0
  rd := h.rd
theorem St.next {P : Program} {Γ : YEnv} {N h0 B : Nat} {r : Option Nat} {E E' : Env} {m m' : Mem} {w w' : World} {s : Fr} {a : Act} (h : St P Γ N h0 B r E m w s a) (he : Evo E m w E' m' w') (hr : Rel E' m' w' B)
    {d : Option Tmp} (hd : d.all (· < N) = true) {v u : Value} (hv : Rep E' m'.next v u) : St P Γ N h0 B r E' m' w' (putO s d (.val v)) (a.put d u) := (h.evo he hr).put hd hv

/-- What is concretely to hold where K holds on the abstract side. -/
def Conc (P : Program) (Γ : YEnv) (N h0 B : Nat) (r : Option Nat) (E0 : Env) (m0 : Mem) (w0 : World) (K : Fr → Mem → Prop) (a : Act) (w : World) : Prop :=
  ∃ E m s, Evo E0 m0 w0 E m w ∧ St P Γ N h0 B r E m w s a ∧ K s m

theorem FR.ev {E : Env} {m : Mem} {w : World} {N : Nat} {s : Fr} {a : Act} (h : FR E m w N s a) (x : Operand) : Rep E m.next (evalO s x) (a.eval x) := by
  cases x with
  | tmp t => exact (h.2 t).rep
  | const v => exact constA_rep v _ _
  | global g => exact .junk _
  | func f => exact .func _ _ _ _ _ (by simp) rfl rfl (fun i v u h => by simp at h) (fun i v u h => by simp at h)

theorem comp_of_sop {P : Program} {ops : Array Oper} {o : Oper} {ao : AOp} (h : sopOp P ops o = some ao) : (compOp P o.op = some ao ∧ plainA ao = true) ∨ (∃ a1, compOp P o.op = some a1 ∧ litOp a1 = some ao) ∨ (ao = .bad ∧ ∀ c, o.op ≠ .defer c) := by
  unfold sopOp at h
  split at h
  · rename_i a1 h1
    split at h
    · exact .inr (.inl ⟨a1, h1, h⟩)
    · split at h
      · cases h; rename_i h2; exact .inl ⟨h1, h2⟩
      · cases h
  · split at h
    · cases h
    · rename_i hn; cases h; exact .inr (.inr ⟨rfl, fun c hc => hn c hc⟩)

theorem not_defer {P : Program} {ops : Array Oper} {o : Oper} {ao : AOp} (h : sopOp P ops o = some ao) : ∀ c, o.op ≠ .defer c := by
  intro c hc
  rcases comp_of_sop h with ⟨h1, _⟩ | ⟨a1, h1, _⟩ | ⟨_, h1⟩
  · simp [hc, compOp] at h1
  · simp [hc, compOp] at h1
  · exact h1 c hc

end Go.Proofs.Ytnhodgonmceojaa.Sh
