/- The operations of the abstract memory: what each of the model's operations is there, and what it does. -/
import Derived.Test.YtnhodgonmceojaaShB
set_option linter.unusedVariables false
set_option linter.unusedSimpArgs false
namespace Go.Proofs.Ytnhodgonmceojaa.Sh
open Go.RowKit

inductive AOp where
  | mov (x : Operand)
  | pick (c a b : Operand)
  | new (t : TypeId) (z : Nat)
  | box (t : TypeId) (z : Nat) (x : Operand)
  | build (t : TypeId) (parts : List (Nat × Nat × Operand))
  | bslice (e : TypeId) (z len : Nat) (parts : List (Nat × Nat × Operand))
  | ld1 (x : Operand)
  | ldN (n : Nat) (x : Operand)
  | st (n : Nat) (x v : Operand)
  | nilck (x : Operand)
  | bin (op : BinOp) (x y : Operand)
  | isnil (neg : Bool) (kind : Nat) (x : Operand)
  | beq (neg : Bool) (x y : Operand)
  | not (x : Operand)
  | neg (x : Operand)
  | conv (k : IntKind) (x : Operand)
  | iface (t : TypeId) (x : Operand)
  | mkfunc (fn : FuncId) (first cap : List Operand)
  | mkmap
  | mkslice (e : TypeId) (z bytes : Nat) (len cap : Operand)
  | sl (z : Nat) (x : Operand) (lo hi mx : Option Operand)
  | slArr (n z : Nat) (x : Operand) (lo hi mx : Option Operand)
  | off (x : Operand) (o : Nat)
  | ixArr (n z : Nat) (x i : Operand)
  | ixSl (z : Nat) (x i : Operand)
  | fld1 (o : Nat) (x : Operand)
  | fldN (o n : Nat) (x : Operand)
  | ixVal1 (n : Nat) (x i : Operand)
  | ixValN (n z : Nat) (x i : Operand)
  | ext (x : Operand) (i : Nat)
  | len (kind : Nat) (x : Operand)
  | lenC (n : Nat)
  | minmax (isMin : Bool) (xs : List Operand)
  | app (e : TypeId) (z bytes : Nat) (s x : Operand)
  | look (e : TypeId) (x i : Operand) (ok : Bool)
  | mapset (x i v : Operand)
  | lit (e : TypeId) (z len : Nat) (parts : List (Nat × Nat × Operand))
  | app1 (e : TypeId) (z bytes : Nat) (s : Operand) (x : Tmp)
  | call (f : Operand) (args : List Operand)
  | invoke (recv : Operand) (name : String) (args : List Operand)
  | bad

/-- Values without an address in them. -/
def simple : Value → Bool
  | .bool _ | .int _ _ | .string _ | .pointer none | .slice none 0 0 | .map none | .nilFunc | .nilIface => true
  | _ => false
theorem simple_rep {v : Value} (h : simple v = true) (E : Env) (n : Nat) : Rep E n v v := by
  unfold simple at h
  split at h <;> first | exact .bool _ | exact .int _ _ | exact .str _ | exact .ptr0 | exact .slice0 | exact .map0 | exact .nilFunc | exact .nilIface | cases h
theorem simple_okCell {v : Value} (h : simple v = true) : okCell v = true := by
  unfold simple at h
  split at h <;> first | rfl | cases h
theorem simple_repL {vs : List Value} (h : vs.all simple = true) (E : Env) (n : Nat) : RepL E n vs vs :=
  ⟨rfl, fun i v u h1 h2 => by
    rw [h1] at h2; cases h2
    exact simple_rep (List.all_eq_true.1 h v (List.mem_of_getElem? h1)) E n⟩

def constA (v : Value) : Value :=
  if simple v then v else
  match v with
  | .agg cs => if cs.toList.all simple then v else undef
  | _ => undef
theorem constA_rep (v : Value) (E : Env) (n : Nat) : Rep E n (constA v) v := by
  unfold constA
  split
  · rename_i h; exact simple_rep h E n
  · split
    · rename_i cs
      split
      · rename_i h2
        have := simple_repL h2 E n
        exact .agg _ _ rfl fun i v u h1 h2 => this.2 i v u (by simpa using h1) (by simpa using h2)
      · exact .junk _
    · exact .junk _

/-- What a slot of a frame holds: a value, or a slice that is built to be appended alone. -/
inductive Slot where
  | val (v : Value)
  | lit (k : Nat) (cs : List Value)
  | skip
def Slot.v : Slot → Value
  | .val v => v
  | .lit _ _ => undef
  | .skip => undef
abbrev Fr := Nat → Slot
def evalO (s : Fr) : Operand → Value
  | .tmp t => (s t).v
  | .const v => constA v
  | .func f => .func (.func f) #[] #[]
  | .global _ => undef

def Zc (P : Program) (t : TypeId) : List Value := (((P.info? t).bind (·.zero)).map (·.cells.toList)).getD []
def Zv (P : Program) (t : TypeId) : Value := ((P.info? t).bind (·.zero)).getD undef

/-! ### Pure parts of the operations -/
def binA (op : BinOp) (x y : Value) : Option Value :=
  match x, y with
  | .int k a, .int k' b =>
    match op with
    | .shl => if b < 0 then none else some (.int k (k.wrap (a * 2 ^ (min b.toNat k.bits))))
    | .shr => if b < 0 then none else some (.int k (a.fdiv (2 ^ (min b.toNat k.bits))))
    | op =>
      if k ≠ k' then none else
      match op with
      | .add => some (.int k (k.wrap (a + b)))
      | .sub => some (.int k (k.wrap (a - b)))
      | .mul => some (.int k (k.wrap (a * b)))
      | .quo => if b = 0 then none else some (.int k (k.wrap (a.tdiv b)))
      | .rem => if b = 0 then none else some (.int k (a.tmod b))
      | .and => some (.int k (k.wrap ((BitVec.ofInt k.bits a &&& BitVec.ofInt k.bits b).toNat : Int)))
      | .or => some (.int k (k.wrap ((BitVec.ofInt k.bits a ||| BitVec.ofInt k.bits b).toNat : Int)))
      | .xor => some (.int k (k.wrap ((BitVec.ofInt k.bits a ^^^ BitVec.ofInt k.bits b).toNat : Int)))
      | .andNot => some (.int k (k.wrap ((BitVec.ofInt k.bits a &&& ~~~BitVec.ofInt k.bits b).toNat : Int)))
      | .eql => some (.bool (a == b))
      | .neq => some (.bool (a != b))
      | .lss => some (.bool (a < b))
      | .leq => some (.bool (a ≤ b))
      | .gtr => some (.bool (a > b))
      | .geq => some (.bool (a ≥ b))
      | _ => none
  | _, _ => none

def isNilA : Nat → Value → Option Bool
  | 0, .pointer a => some a.isNone
  | 1, .slice none 0 0 => some true
  | 1, .slice (some _) _ _ => some false
  | 2, .map r => some r.isNone
  | 3, .nilFunc => some true
  | 3, .func _ _ _ => some false
  | 4, .nilIface => some true
  | 4, .iface _ _ => some false
  | _, _ => none

def minmaxA (isMin : Bool) : Value → List Value → Option Value
  | v, [] => some v
  | .int k x, .int _ y :: r => minmaxA isMin (.int k (if isMin then (if y < x then y else x) else (if y > x then y else x))) r
  | _, _ => none

/-- Parts laid into zero cells. -/
def buildA (cells : List Value) : List (Nat × Nat × Value) → Option (List Value)
  | [] => some cells
  | (o, n, v) :: r => if okVal v = true ∧ v.cells.size = n ∧ o + n ≤ cells.length then buildA (splice cells o v.cells.toList) r else none

def natOf : Value → Option Nat
  | .int _ i => if 0 ≤ i then some i.toNat else none
  | _ => none

/-- Bounds of a slice expression: what is left out, what is told. -/
def boundA (d : Nat) : Option Value → Option Nat
  | none => some d
  | some v => natOf v

/-- x[lo:hi:max] of a slice. -/
def sliceA (z : Nat) (x : Value) (lo hi mx : Option Value) : Option Value :=
  if mx.isSome = true ∧ hi.isSome = false then none else
  match x with
  | .slice none 0 0 =>
    match boundA 0 lo, boundA 0 hi, boundA 0 mx with
    | some l, some h, some q => if l = 0 ∧ h = 0 ∧ q = 0 then some (.slice none 0 0) else none
    | _, _, _ => none
  | .slice none 0 c =>
    match boundA 0 lo, boundA 0 hi, mx with
    | some l, some h, none => if l = 0 ∧ h = 0 ∧ c = big then some (.slice none 0 big) else none
    | _, _, _ => none
  | .slice (some a) len c =>
    match boundA 0 lo, boundA len hi with
    | some l, some h =>
      if l ≤ h then
        match mx with
        | some mv =>
          match natOf mv with
          | some q => if h ≤ q ∧ q ≤ (if c < big then c else c - big) then some (.slice (some (if q = l then a else ⟨a.block, a.off + l * z, none⟩)) (h - l) (q - l)) else none
          | none => none
        | none =>
          if c < big then
            if h ≤ c then some (.slice (some (if c = l then a else ⟨a.block, a.off + l * z, none⟩)) (h - l) (c - l)) else none
          else if h ≤ c - big then
            if l < c - big ∨ l = 0 then some (.slice (some ⟨a.block, a.off + l * z, none⟩) (h - l) (c - l)) else some (.slice none 0 big)
          else none
      else none
    | _, _ => none
  | _ => none

def slArrA (n z : Nat) (x : Value) (lo hi mx : Option Value) : Option Value :=
  match x with
  | .pointer (some a) =>
    match boundA 0 lo, boundA n hi, boundA n mx with
    | some l, some h, some q => if l ≤ h ∧ h ≤ q ∧ q ≤ n ∧ n ≤ maxLen ∧ (mx.isSome = true → hi.isSome = true) then some (.slice (some (if q = l then a else ⟨a.block, a.off + l * z, none⟩)) (h - l) (q - l)) else none
    | _, _, _ => none
  | _ => none

/-- The cells that a slice's elements fill. -/
def srcA (z : Nat) (m : Mem) : Value → Option (Nat × List Value)
  | .slice none 0 _ => some (0, [])
  | .slice (some a) n _ => (m.cells a.block a.off (n * z)).map fun c => (n, c)
  | _ => none

/-- append(s, x...): what is known of it. -/
def appL (e : TypeId) (z bytes : Nat) (s : Value) (n : Nat) (news : List Value) (m : Mem) : Option (Value × Mem) :=
    if news.all okCell = true then
    match s with
    | .slice none 0 0 =>
      if n = 0 then some (.slice none 0 0, m)
      else if n * bytes ≤ 140737488355328 ∧ n ≤ maxLen then some (.slice (some ⟨m.next, 0, none⟩) n (big + n), m.new (.cells news e z)) else none
    | .slice (some a) l c =>
      match m.get a.block with
      | some (.cells cs t z') =>
        if l + n ≤ (if c < big then c else c - big) then
          if a.off + l * z + n * z ≤ cs.length then some (.slice (some a) (l + n) c, m.set a.block (.cells (splice cs (a.off + l * z) news) t z')) else none
        else if l + n ≤ maxLen ∧ (l + n) * bytes ≤ 140737488355328 then
          if c < big then
            if a.off + l * z ≤ cs.length then some (.slice (some ⟨m.next, 0, none⟩) (l + n) (big + (l + n)), m.new (.cells ((cs.drop a.off).take (l * z) ++ news) e z)) else none
          else if cs.length = a.off + l * z ∧ t = e ∧ z' = z then some (.slice (some ⟨m.next, 0, none⟩) (l + n) (big + (l + n)), (m.kill a.block).new (.cells (cs.drop a.off ++ news) e z)) else none
        else none
      | some (.view cs) =>
        if l + n ≤ c then none
        else if c < big ∧ a.off + l * z ≤ cs.length ∧ l + n ≤ maxLen ∧ (l + n) * bytes ≤ 140737488355328 then some (.slice (some ⟨m.next, 0, none⟩) (l + n) (big + (l + n)), m.new (.cells ((cs.drop a.off).take (l * z) ++ news) e z)) else none
      | _ => none
    | _ => none
    else none
/-- append(s, x...) of which it is not told where it lies, if s lies in a row of ours of which it takes all that is known. -/
def appW (z bytes : Nat) (s : Value) (n : Nat) (news : List Value) (m : Mem) : Bool :=
  news.all okCell && match s with
  | .slice (some a) l c => match m.get a.block with
    | some (.cells cs _ z') => decide (big ≤ c ∧ cs.length = a.off + l * z ∧ z' = z ∧ l + n ≤ maxLen ∧ (l + n) * bytes ≤ 140737488355328)
    | _ => false
  | _ => false
def appA (e : TypeId) (z bytes : Nat) (s x : Value) (m : Mem) : Option (Value × Mem) :=
  match srcA z m x with
  | none => none
  | some (n, news) => appL e z bytes s n news m

/-- Two keys of a map: one, another, or not to be told. -/
def keyEq : Value → Value → Option Bool
  | .int k a, .int k' b => if k = k' then some (a == b) else none
  | _, _ => none
def findA (k : Value) : List (Value × Value) → Nat → Option (Option Nat)
  | [], _ => some none
  | (k', _) :: r, i =>
    match keyEq k k' with
    | some true => some (some i)
    | some false => findA k r (i + 1)
    | none => none
def isInt : Value → Bool
  | .int _ _ => true
  | _ => false

def zeros (P : Program) (e : TypeId) (n : Nat) : List Value := (List.replicate n (Zc P e)).flatten

/-- A slice whose capacity is known from below alone lies in a row of elements of this size. -/
def rowOk (z : Nat) (x : Value) (m : Mem) : Bool :=
  match x with
  | .slice (some a) _ c => if c < big then true else match m.get a.block with
    | some (.cells _ _ z') => z' == z
    | _ => false
  | _ => true

def step (P : Program) : AOp → (Operand → Value) → Mem → Option (Value × Mem)
  | .mov x, ev, m => some (ev x, m)
  | .pick c a b, ev, m => match ev c with
    | .bool t => some (if t then ev a else ev b, m)
    | _ => none
  | .new t z, ev, m => some (.pointer (some ⟨m.next, 0, none⟩), m.new (.cells (Zc P t) t z))
  | .box t z x, ev, m => if okVal (ev x) = true ∧ (ev x).cells.size = z then some (.pointer (some ⟨m.next, 0, none⟩), m.new (.cells (ev x).cells.toList t z)) else none
  | .build t parts, ev, m => (buildA (Zc P t) (parts.map fun p => (p.1, p.2.1, ev p.2.2))).map fun c => (.agg c.toArray, m)
  | .bslice e z len parts, ev, m => (buildA (zeros P e len) (parts.map fun p => (p.1, p.2.1, ev p.2.2))).map fun c => (.slice (some ⟨m.next, 0, none⟩) len len, m.new (.cells c e z))
  | .ld1 x, ev, m => match ev x with
    | .pointer (some a) => (m.cell a.block a.off).map fun v => (v, m)
    | _ => none
  | .ldN n x, ev, m => match ev x with
    | .pointer (some a) => (m.cells a.block a.off n).map fun v => (.agg v.toArray, m)
    | _ => none
  | .st n x v, ev, m => match ev x with
    | .pointer (some a) => match m.get a.block with
      | some (.cells c t z) => if okVal (ev v) = true ∧ (ev v).cells.size = n ∧ a.off + n ≤ c.length ∧ (ev v).cells.toList.all okCell = true then some (undef, m.set a.block (.cells (splice c a.off (ev v).cells.toList) t z)) else none
      | _ => none
    | _ => none
  | .nilck x, ev, m => match ev x with
    | .pointer (some a) => some (.pointer (some a), m)
    | .func (.func f) xs ys => some (.func (.func f) xs ys, m)
    | .iface t v => some (.iface t v, m)
    | _ => none
  | .bin op x y, ev, m => (binA op (ev x) (ev y)).map fun v => (v, m)
  | .isnil ng kd x, ev, m => (isNilA kd (ev x)).map fun b => (.bool (b != ng), m)
  | .beq ng x y, ev, m => match ev x, ev y with
    | .bool a, .bool b => some (.bool ((a == b) != ng), m)
    | _, _ => none
  | .not x, ev, m => match ev x with
    | .bool b => some (.bool !b, m)
    | _ => none
  | .neg x, ev, m => match ev x with
    | .int k i => some (.int k (k.wrap (0 - i)), m)
    | _ => none
  | .conv k x, ev, m => match ev x with
    | .int _ i => some (.int k (k.wrap i), m)
    | _ => none
  | .iface t x, ev, m => some (.iface t (ev x), m)
  | .mkfunc fn first cap, ev, m => some (.func (.func fn) (first.map ev).toArray (cap.map ev).toArray, m)
  | .mkmap, ev, m => some (.map (some m.next), m.new (.map []))
  | .mkslice e z bytes l c, ev, m => match ev l, ev c with
    | .int _ n, .int _ q => if n = q ∧ 0 ≤ n ∧ n ≤ 9223372036854775807 ∧ (bytes : Int) * n ≤ 281474976710656 then some (.slice (some ⟨m.next, 0, none⟩) n.toNat n.toNat, m.new (.cells (zeros P e n.toNat) e z)) else none
    | _, _ => none
  | .sl z x lo hi mx, ev, m => if rowOk z (ev x) m = true then (sliceA z (ev x) (lo.map ev) (hi.map ev) (mx.map ev)).map fun v => (v, m) else none
  | .slArr n z x lo hi mx, ev, m => (slArrA n z (ev x) (lo.map ev) (hi.map ev) (mx.map ev)).map fun v => (v, m)
  | .off x o, ev, m => match ev x with
    | .pointer (some a) => some (.pointer (some ⟨a.block, a.off + o, none⟩), m)
    | _ => none
  | .ixArr n z x i, ev, m => match ev x, ev i with
    | .pointer (some a), .int _ j => if 0 ≤ j ∧ j < n then some (.pointer (some ⟨a.block, a.off + j.toNat * z, none⟩), m) else none
    | _, _ => none
  | .ixSl z x i, ev, m => match ev x, ev i with
    | .slice (some a) n _, .int _ j => if 0 ≤ j ∧ j < n then some (.pointer (some ⟨a.block, a.off + j.toNat * z, none⟩), m) else none
    | _, _ => none
  | .fld1 o x, ev, m => match ev x with
    | .agg cs => (cs[o]?).map fun v => (v, m)
    | _ => none
  | .fldN o n x, ev, m => match ev x with
    | .agg cs => if o + n ≤ cs.size then some (.agg (cs.extract o (o + n)), m) else none
    | _ => none
  | .ixVal1 n x i, ev, m => match ev x, ev i with
    | .agg cs, .int _ j => if 0 ≤ j ∧ j < n then (cs[j.toNat]?).map fun v => (v, m) else none
    | _, _ => none
  | .ixValN n z x i, ev, m => match ev x, ev i with
    | .agg cs, .int _ j => if 0 ≤ j ∧ j < n ∧ j.toNat * z + z ≤ cs.size then some (.agg (cs.extract (j.toNat * z) (j.toNat * z + z)), m) else none
    | _, _ => none
  | .ext x i, ev, m => match ev x with
    | .tuple vs => (vs[i]?).map fun v => (v, m)
    | _ => none
  | .len kd x, ev, m => match kd, ev x with
    | 0, .slice _ n _ => some (.int .i64 n, m)
    | 1, .string s => some (.int .i64 s.size, m)
    | 2, .map none => some (.int .i64 0, m)
    | 2, .map (some r) => match m.get r with
      | some (.map es) => some (.int .i64 es.length, m)
      | _ => none
    | _, _ => none
  | .lenC n, ev, m => some (.int .i64 n, m)
  | .minmax mn xs, ev, m => match xs.map ev with
    | v :: r => (minmaxA mn v r).map fun v => (v, m)
    | [] => none
  | .app e z bytes s x, ev, m => appA e z bytes (ev s) (ev x) m
  | .look e x i ok, ev, m => if isInt (ev i) = true then match ev x with
    | .map none => some (if ok then .tuple #[Zv P e, .bool false] else Zv P e, m)
    | .map (some r) => match m.get r with
      | some (.map es) => match findA (ev i) es 0 with
        | some none => some (if ok then .tuple #[Zv P e, .bool false] else Zv P e, m)
        | some (some j) => match es[j]? with
          | some kv => some (if ok then .tuple #[kv.2, .bool true] else kv.2, m)
          | none => none
        | none => none
      | _ => none
    | _ => none
    else none
  | .mapset x i v, ev, m => if isInt (ev i) = true then match ev x with
    | .map (some r) => match m.get r with
      | some (.map es) => match findA (ev i) es 0 with
        | some none => some (undef, m.set r (.map (es ++ [(ev i, ev v)])))
        | some (some j) => some (undef, m.set r (.map (es.set j (ev i, ev v))))
        | none => none
      | _ => none
    | _ => none
    else none
  | .lit _ _ _ _, _, _ => none
  | .app1 _ _ _ _ _, _, _ => none
  | .call _ _, _, _ => none
  | .invoke _ _ _, _, _ => none
  | .bad, _, _ => none

/-! ### What an operation of the model is -/
def tsz (P : Program) (t : TypeId) : Option Nat := (P.info? t).map (·.size)
def zok (P : Program) (t : TypeId) (z : Nat) : Bool := (Zc P t).length == z && (Zc P t).all simple && ((P.info? t).bind (·.zero)).isSome
def nilKind : TypeDesc → Operand → Option Nat
  | .pointer _, .const (.pointer none) => some 0
  | .slice _, .const (.slice none 0 0) => some 1
  | .map _ _, .const (.map none) => some 2
  | .func _ _ _, .const .nilFunc => some 3
  | .interface _, .const .nilIface => some 4
  | _, _ => none

def placesOf (P : Program) (t : TypeId) : Option (Nat → Option (Nat × Nat)) :=
  match P.underlying t with
  | some (.array _ e) => (P.info? e).map fun ie => fun i => some (i * ie.size, ie.size)
  | some (.struct fields) => (fields.toList.mapM (fun f => (P.info? f.type).map fun i => (f.offset, i.size))).map fun places => fun i => places[i]?
  | _ => none
def partsOf (pl : Nat → Option (Nat × Nat)) : List (Nat × Operand) → Option (List (Nat × Nat × Operand))
  | [] => some []
  | (i, x) :: r => match pl i, partsOf pl r with
    | some (o, n), some r' => some ((o, n, x) :: r')
    | _, _ => none

def compOp (P : Program) : Op → Option AOp
  | .move x | .assign x => some (.mov x)
  | .pick c a b => some (.pick c a b)
  | .alloc t => match tsz P t with
    | some z => if zok P t z then some (.new t z) else none
    | none => none
  | .box t x => match tsz P t with
    | some z => some (.box t z x)
    | none => none
  | .build t parts => match placesOf P t, tsz P t with
    | some pl, some z => if zok P t z then (partsOf pl parts.toList).map (.build t) else none
    | _, _ => none
  | .buildSlice t len parts => match P.underlying t with
    | some (.slice e) => match tsz P e with
      | some z => if zok P e z && decide (0 < z) && decide (len * z ≤ 16777216) then (partsOf (fun i => some (i * z, z)) parts.toList).map (.bslice e z len) else none
      | none => none
    | _ => none
  | .load t x => match P.underlying t with
    | some (.struct _) | some (.array _ _) => (tsz P t).map fun n => .ldN n x
    | some _ => some (.ld1 x)
    | none => none
  | .store t x v => (tsz P t).map fun n => .st n x v
  | .nilCheck x => some (.nilck x)
  | .binOp op t x y _ => match P.underlying t with
    | some (.int _) => some (.bin op x y)
    | some .bool => match op with
      | .eql => some (.beq false x y)
      | .neq => some (.beq true x y)
      | _ => none
    | some d => match nilKind d y, op with
      | some kd, .eql => some (.isnil false kd x)
      | some kd, .neq => some (.isnil true kd x)
      | _, _ => none
    | none => none
  | .unOp op _ x => match op with
    | .not => some (.not x)
    | .neg => some (.neg x)
    | _ => none
  | .convert src dst x => match P.underlying src, P.underlying dst with
    | some (.int _), some (.int k) => some (.conv k x)
    | _, _ => none
  | .makeInterface t x => match P.underlying t with
    | some (.interface _) => none
    | some _ => some (.iface t x)
    | none => none
  | .makeFunc (.func f) first cap => some (.mkfunc f first.toList cap.toList)
  | .makeMap _ none => some .mkmap
  | .makeSlice t l c => match P.underlying t with
    | some (.slice e) => match P.info? e with
      | some i => if zok P e i.size && decide (0 < i.size) then some (.mkslice e i.size i.bytes l c) else none
      | none => none
    | _ => none
  | .slice t x lo hi mx => match P.underlying t with
    | some (.slice e) => (tsz P e).map fun z => .sl z x lo hi mx
    | some (.array n e) => (tsz P e).map fun z => .slArr n z x lo hi mx
    | _ => none
  | .fieldAddr t x f => match P.underlying t with
    | some (.struct fields) => match fields[f]? with
      | some fd => match tsz P fd.type with
        | some (n + 1) => some (.off x fd.offset)
        | _ => none
      | none => none
    | _ => none
  | .field t x f => match P.underlying t with
    | some (.struct fields) => match fields[f]? with
      | some fd => match P.underlying fd.type with
        | some (.struct _) | some (.array _ _) => (tsz P fd.type).map fun n => .fldN fd.offset n x
        | some _ => some (.fld1 fd.offset x)
        | none => none
      | none => none
    | _ => none
  | .indexAddr t x i => match P.underlying t with
    | some (.array n e) => (tsz P e).map fun z => .ixArr n z x i
    | some (.slice e) => (tsz P e).map fun z => .ixSl z x i
    | _ => none
  | .index t x i => match P.underlying t with
    | some (.array n e) => match P.underlying e, tsz P e with
      | some (.struct _), some z | some (.array _ _), some z => some (.ixValN n z x i)
      | some _, some 1 => some (.ixVal1 n x i)
      | _, _ => none
    | _ => none
  | .extract x i => some (.ext x i)
  | .lookup t x i ok => match P.underlying t with
    | some (.map k e) => match P.underlying k with
      | some (.int _) => if zok P e (Zc P e).length then some (.look e x i ok) else none
      | _ => none
    | _ => none
  | .mapUpdate t x i v | .insert t x i v => match P.underlying t with
    | some (.map k e) => match P.underlying k with
      | some (.int _) => some (.mapset x i v)
      | _ => none
    | _ => none
  | .call { callee := .builtin .len, args, argTypes } => match argTypes.toList, args.toList with
    | [t], [x] => match P.underlying t with
      | some (.array n _) => some (.lenC n)
      | some (.slice _) => some (.len 0 x)
      | some .string => some (.len 1 x)
      | some (.map _ _) => some (.len 2 x)
      | _ => none
    | _, _ => none
  | .call { callee := .builtin .min, args, argTypes } => some (.minmax true args.toList)
  | .call { callee := .builtin .max, args, argTypes } => some (.minmax false args.toList)
  | .call { callee := .builtin .append, args, argTypes } => match argTypes.toList, args.toList with
    | [t, t'], [s, x] => if t = t' then match P.underlying t with
      | some (.slice e) => match P.info? e with
        | some i => if zok P e i.size && decide (0 < i.size) then some (.app e i.size i.bytes s x) else none
        | none => none
      | _ => none
      else none
    | _, _ => none
  | .call { callee := .value f, args, argTypes } => some (.call f args.toList)
  | .call { callee := .invoke r name, args, argTypes } => some (.invoke r name args.toList)
  | _ => none

end Go.Proofs.Ytnhodgonmceojaa.Sh
