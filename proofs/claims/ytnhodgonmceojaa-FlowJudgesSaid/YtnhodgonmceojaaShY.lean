/- For proofs by hand: what is to be shown of code, step by step, as equations. -/
import Derived.Test.YtnhodgonmceojaaShX
set_option linter.unusedVariables false
set_option linter.unusedSimpArgs false
namespace Go.Proofs.Ytnhodgonmceojaa.Sh
open Go.RowKit

/-- The answer is there, and k holds of it. -/
def optK {α : Type} (o : Option α) (k : α → Prop) : Prop := match o with
  | some a => k a
  | none => False
theorem optK_congr {α : Type} {o o' : Option α} (h : o = o') (k : α → Prop) : optK o k = optK o' k := by rw [h]
theorem optK_some {α : Type} (a : α) (k : α → Prop) : optK (some a) k = k a := id rfl
theorem optK_none {α : Type} (k : α → Prop) : optK none k = False := id rfl
theorem optK_ite {α : Type} (c : Prop) [Decidable c] (o : Option α) (k : α → Prop) : optK (if c then o else none) k = (c ∧ optK o k) := by
  by_cases h : c
  · simp [h]
  · simp [h, optK]
theorem optK_map {α β : Type} (o : Option α) (f : α → β) (k : β → Prop) : optK (o.map f) k = optK o (fun a => k (f a)) := by cases o <;> rfl
def condK (v : Value) (A B : Prop) : Prop := match v with
  | .bool b => (b = true → A) ∧ (b = false → B)
  | _ => False
theorem condK_congr {v v' : Value} (h : v = v') (A B : Prop) : condK v A B = condK v' A B := by rw [h]
theorem condK_true (A B : Prop) : condK (.bool true) A B = A := by simp [condK]
theorem condK_false (A B : Prop) : condK (.bool false) A B = B := by simp [condK]
theorem condK_bool (b : Bool) (A B : Prop) : condK (.bool b) A B = ((b = true → A) ∧ (b = false → B)) := id rfl
theorem condK_dec (p : Prop) [Decidable p] (A B : Prop) : condK (.bool (decide p)) A B = ((p → A) ∧ (¬p → B)) := by simp [condK]
def guardK (x : Slot) (want : Bool) (A B : Prop) : Prop := match x with
  | .val (.bool b) => if b = want then A else B
  | .skip => B
  | _ => False
theorem guardK_congr {x x' : Slot} (h : x = x') (want : Bool) (A B : Prop) : guardK x want A B = guardK x' want A B := by rw [h]
theorem guardK_tt (A B : Prop) : guardK (.val (.bool true)) true A B = A := id rfl
theorem guardK_tf (A B : Prop) : guardK (.val (.bool true)) false A B = B := id rfl
theorem guardK_ft (A B : Prop) : guardK (.val (.bool false)) true A B = B := id rfl
theorem guardK_ff (A B : Prop) : guardK (.val (.bool false)) false A B = A := id rfl
theorem guardK_dec_t (p : Prop) [Decidable p] (A B : Prop) : guardK (.val (.bool (decide p))) true A B = ((p → A) ∧ (¬p → B)) := by
  by_cases h : p <;> simp [guardK, h]
theorem guardK_dec_f (p : Prop) [Decidable p] (A B : Prop) : guardK (.val (.bool (decide p))) false A B = ((p → B) ∧ (¬p → A)) := by
  by_cases h : p <;> simp [guardK, h]
theorem guardK_t (b : Bool) (A B : Prop) : guardK (.val (.bool b)) true A B = ((b = true → A) ∧ (b = false → B)) := by cases b <;> simp [guardK]
theorem guardK_f (b : Bool) (A B : Prop) : guardK (.val (.bool b)) false A B = ((b = true → B) ∧ (b = false → A)) := by cases b <;> simp [guardK]
def litK (x : Slot) (k : Nat → List Value → Prop) : Prop := match x with
  | .lit n cs => k n cs
  | _ => False
theorem litK_congr {x x' : Slot} (h : x = x') (k : Nat → List Value → Prop) : litK x k = litK x' k := by rw [h]
theorem litK_lit (n : Nat) (cs : List Value) (k : Nat → List Value → Prop) : litK (.lit n cs) k = k n cs := id rfl

abbrev KQ := Exit → Fr → Mem → Prop
inductive KI where
  | code (c : S)
  | blk (id : Nat)
  | scp

/-- Bundled: the program, the temporaries that live on, what a loop has been told. -/
structure Cx where
  P : Program
  G : List Tmp
  Γ : YEnv

def opN (c : Cx) (o : SOp) (K : Fr → Mem → Prop) (s : Fr) (m : Mem) : Prop :=
  match o.op with
  | .lit e z len parts => optK (buildA (zeros c.P e len) (parts.map fun p => (p.1, p.2.1, evalO s p.2.2))) fun cs => K (putO s o.dst (.lit len cs)) m
  | .app1 e z bytes x t => litK (s t) fun k cs => cs.length = k * z ∧ optK (appL e z bytes (evalO s x) k cs m) fun r => K (putO s o.dst (.val r.1)) r.2
  | .call f args => callK c.P c.Γ (evalO s f) (args.map (evalO s)) m fun v m' => K (putO s o.dst (.val v)) m'
  | .invoke r nm args => invK c.P c.Γ (evalO s r) nm (args.map (evalO s)) m fun v m' => K (putO s o.dst (.val v)) m'
  | ao => optK (step c.P ao (evalO s) m) fun r => K (putO s o.dst (.val r.1)) r.2
def opsN (c : Cx) : List SOp → (Fr → Mem → Prop) → Fr → Mem → Prop
  | [], K, s, m => K s m
  | ⟨d, op, none⟩ :: r, K, s, m => opN c ⟨d, op, none⟩ (fun s m => opsN c r K s m) s m
  | ⟨d, op, some (g, want)⟩ :: r, K, s, m => guardK (s g) want (opN c ⟨d, op, none⟩ (fun s m => opsN c r K s m) s m) (opsN c r K (putO s d .skip) m)

def kd (W : S → KQ → Fr → Mem → Prop) : List KI → KQ → KQ
  | [], Q => Q
  | .code x :: ks, Q => fun e s m => match e with
    | .normal => W x (kd W ks Q) s m
    | e => kd W ks Q e s m
  | .blk id :: ks, Q => fun e s m => match e with
    | .exit i => if i = id then kd W ks Q .normal s m else kd W ks Q (.exit i) s m
    | e => kd W ks Q e s m
  | .scp :: ks, Q => fun e s m => match e with
    | .goto _ => False
    | e => kd W ks Q e s m

def wpTN (c : Cx) (K : Fr → Mem → Prop) : Tr → FL → Fr → Mem → Prop
  | .fin, _, s, m => K s m
  | .q i f o t, fl, s, m => optK (qv c.P o s m) fun x => wpTN c K t (if f then (i, fun m => qv c.P o s m) :: fl else fl) (putO s o.dst x) m
  | .m i chk ⟨d, op, none⟩ t, fl, s, m => opN c ⟨d, op, none⟩ (fun s' m' => FlOk chk fl m m' ∧ wpTN c K t fl s' m') s m
  | .m i chk ⟨d, op, some (g, want)⟩ t, fl, s, m => guardK (s g) want (opN c ⟨d, op, none⟩ (fun s' m' => FlOk chk fl m m' ∧ wpTN c K t fl s' m') s m) (FlOk chk fl m m ∧ wpTN c K t fl (putO s d .skip) m)
  | .alt x y, fl, s, m => wpTN c K x fl s m ∧ wpTN c K y fl s m

/-- What is to be shown of code, in the form for proofs by hand: no row is let go, appends are told. -/
def wpN (P : Program) (G : List Tmp) : S → YEnv → KQ → Fr → Mem → Prop
  | .skip, _, Q, s, m => Q .normal s m
  | .reg ops, Γ, Q, s, m => opsN ⟨P, G, Γ⟩ ops (fun s m => Q .normal (lim G s) m) s m
  | .regD t, Γ, Q, s, m => wpTN ⟨P, G, Γ⟩ (fun s m => Q .normal (lim G s) m) t [] s m
  | .seq x y, Γ, Q, s, m => wpN P G x Γ (fun e s m => match e with
    | .normal => wpN P G y Γ Q s m
    | e => Q e s m) s m
  | .cond c x y, Γ, Q, s, m => condK (evalO s c) (wpN P G x Γ Q s m) (wpN P G y Γ Q s m)
  | .block id x, Γ, Q, s, m => wpN P G x Γ (fun e s m => match e with
    | .exit i => if i = id then Q .normal s m else Q (.exit i) s m
    | e => Q e s m) s m
  | .scope x, Γ, Q, s, m => wpN P G x Γ (fun e s m => match e with
    | .goto _ => False
    | e => Q e s m) s m
  | .loop x, Γ, Q, s, m => ∃ (I : Nat → Fr → Mem → Prop) (n : Nat), I n s m ∧ ∀ n s m, I n s m → wpN P G x Γ (fun e s m => match e with
    | .normal => ∃ n', n' < n ∧ I n' s m
    | e => Q e s m) s m
  | .exit id, _, Q, s, m => Q (.exit id) s m
  | .ret, _, Q, s, m => Q .ret s m
  | .rfunc f ps x y, Γ, Q, s, m => ∃ g first cap, evalO s f = .func (.func g) first cap ∧
      ACalls P (ext Γ m.next fun args m' K => m'.get m.next = some (.loop .ready none) ∧ args.length = ps.length ∧
        wpN P G x Γ (fun e s1 m1 => e = .normal ∧ wpN P G y Γ (RQ m.next K) s1 m1) (bindP ps args (vals s)) (m'.kill m.next))
        g (first.toList ++ [.func (.yield m.next) #[] #[]] ++ cap.toList) (m.new (.loop .ready none)) (fun _ m2 => AfterR Q m.next s m2)

/-- Code, then what is still to be done. -/
def W (c : Cx) (x : S) (ks : List KI) (Q : KQ) (s : Fr) (m : Mem) : Prop := wpN c.P c.G x c.Γ (kd (fun y Q s m => wpN c.P c.G y c.Γ Q s m) ks Q) s m
def We (c : Cx) (e : Exit) (ks : List KI) (Q : KQ) (s : Fr) (m : Mem) : Prop := kd (fun y Q s m => wpN c.P c.G y c.Γ Q s m) ks Q e s m
def Wo (c : Cx) (ops : List SOp) (ks : List KI) (Q : KQ) (s : Fr) (m : Mem) : Prop := opsN c ops (fun s m => We c .normal ks Q (lim c.G s) m) s m
def Wt (c : Cx) (t : Tr) (fl : FL) (ks : List KI) (Q : KQ) (s : Fr) (m : Mem) : Prop := wpTN c (fun s m => We c .normal ks Q (lim c.G s) m) t fl s m

/-- The continuations as data: an operation's answer, a guard, a condition, a literal. -/
def stepW (c : Cx) (o : Option (Value × Mem)) (d : Option Tmp) (r : List SOp) (ks : List KI) (Q : KQ) (s : Fr) : Prop := match o with
  | some q => Wo c r ks Q (putO s d (.val q.1)) q.2
  | none => False
def guardW (c : Cx) (x : Slot) (want : Bool) (d : Option Tmp) (op : AOp) (r : List SOp) (ks : List KI) (Q : KQ) (s : Fr) (m : Mem) : Prop := match x with
  | .val (.bool b) => if b = want then Wo c (⟨d, op, none⟩ :: r) ks Q s m else Wo c r ks Q (putO s d .skip) m
  | .skip => Wo c r ks Q (putO s d .skip) m
  | _ => False
def condW (c : Cx) (v : Value) (x y : S) (ks : List KI) (Q : KQ) (s : Fr) (m : Mem) : Prop := match v with
  | .bool b => (b = true → W c x ks Q s m) ∧ (b = false → W c y ks Q s m)
  | _ => False
def litW (c : Cx) (x : Slot) (e : TypeId) (z bytes : Nat) (v : Value) (d : Option Tmp) (r : List SOp) (ks : List KI) (Q : KQ) (s : Fr) (m : Mem) : Prop := match x with
  | .lit k cs => cs.length = k * z ∧ stepW c (appL e z bytes v k cs m) d r ks Q s
  | _ => False
def buildW (c : Cx) (o : Option (List Value)) (len : Nat) (d : Option Tmp) (r : List SOp) (ks : List KI) (Q : KQ) (s : Fr) (m : Mem) : Prop := match o with
  | some cs => Wo c r ks Q (putO s d (.lit len cs)) m
  | none => False
def qW (c : Cx) (o : Option Slot) (d : Option Tmp) (t : Tr) (fl : FL) (ks : List KI) (Q : KQ) (s : Fr) (m : Mem) : Prop := match o with
  | some x => Wt c t fl ks Q (putO s d x) m
  | none => False

section
variable {c : Cx}
theorem opK_of_opN {o : SOp} {K : Fr → Mem → Prop} {s : Fr} {m : Mem} (h : opN c o K s m) : opK c.P c.Γ o K s m := by
  obtain ⟨d, op, g⟩ := o
  cases op with
  | lit e z len parts =>
    dsimp only [opN] at h
    dsimp only [opK]
    split
    · rename_i cs hc; rw [hc] at h; exact h
    · rename_i hc; rw [hc] at h; exact h
  | app1 e z bytes x t =>
    dsimp only [opN] at h
    dsimp only [opK]
    generalize s t = sl at h
    cases sl with
    | val v => exact h
    | skip => exact h
    | lit k cs =>
      obtain ⟨h1, h2⟩ := h
      refine ⟨h1, .inl ?_⟩
      split
      · rename_i v m' ha; rw [ha] at h2; exact h2
      · rename_i ha; rw [ha] at h2; exact h2
  | call f args => exact h
  | invoke r nm args => exact h
  | _ =>
    dsimp only [opN] at h
    dsimp only [opK]
    split
    · rename_i v m' ha; rw [ha] at h; exact h
    · rename_i ha; rw [ha] at h; exact h
theorem wpOps_of_opsN (hΓ : YMono c.Γ) : ∀ (ops : List SOp) {K : Fr → Mem → Prop} {s : Fr} {m : Mem}, opsN c ops K s m → wpOps c.P c.Γ ops K s m
  | [], K, s, m, h => h
  | ⟨d, op, none⟩ :: r, K, s, m, h => opG_congr (o := ⟨d, op, none⟩) hΓ (fun _ _ => rfl) (fun x m' h => wpOps_of_opsN hΓ r h) (opK_of_opN h)
  | ⟨d, op, some (g, want)⟩ :: r, K, s, m, h => by
    dsimp only [opsN] at h
    dsimp only [wpOps, opG]
    generalize hg : s g = sl at h
    unfold guardK at h
    split at h
    · rename_i b
      dsimp only
      split at h
      · rename_i e
        rw [if_pos e]
        exact opG_congr (o := ⟨d, op, none⟩) hΓ (fun _ _ => rfl) (fun x m' h => wpOps_of_opsN hΓ r h) (opK_of_opN h)
      · rename_i e; rw [if_neg e]; exact wpOps_of_opsN hΓ r h
    · exact wpOps_of_opsN hΓ r h
    · exact h.elim

theorem wpT_of_wpTN (hΓ : YMono c.Γ) {K : Fr → Mem → Prop} : ∀ (t : Tr) {fl : FL} {s : Fr} {m : Mem}, wpTN c K t fl s m → wpT c.P c.Γ K t fl s m
  | .fin, fl, s, m, h => h
  | .q i f o t, fl, s, m, h => by
    dsimp only [wpTN, optK] at h
    dsimp only [wpT]
    split at h
    · rename_i x hx; rw [hx]; exact wpT_of_wpTN hΓ t h
    · exact h.elim
  | .m i chk ⟨d, op, none⟩ t, fl, s, m, h => opG_congr (o := ⟨d, op, none⟩) hΓ (fun _ _ => rfl) (fun x m' h => ⟨h.1, wpT_of_wpTN hΓ t h.2⟩) (opK_of_opN h)
  | .m i chk ⟨d, op, some (g, want)⟩ t, fl, s, m, h => by
    dsimp only [wpTN] at h
    dsimp only [wpT, opG]
    generalize hg : s g = sl at h
    unfold guardK at h
    split at h
    · rename_i b
      dsimp only
      split at h
      · rename_i e
        rw [if_pos e]
        exact opG_congr (o := ⟨d, op, none⟩) (K' := fun s' m' => FlOk chk fl m m' ∧ wpT c.P c.Γ K t fl s' m') hΓ (fun _ _ => rfl) (fun x m' h => And.intro h.1 (wpT_of_wpTN hΓ t h.2)) (opK_of_opN h)
      · rename_i e; rw [if_neg e]; exact ⟨h.1, wpT_of_wpTN hΓ t h.2⟩
    · exact ⟨h.1, wpT_of_wpTN hΓ t h.2⟩
    · exact h.elim
  | .alt x y, fl, s, m, h => ⟨wpT_of_wpTN hΓ x h.1, wpT_of_wpTN hΓ y h.2⟩

theorem ACalls.env {P : Program} {Γ Γ' : YEnv} (hΓ : ∀ i args m K, Γ i args m K → Γ' i args m K) {g : FuncId} {args : List Value} {m : Mem} {K : Value → Mem → Prop} (h : ACalls P Γ g args m K) : ACalls P Γ' g args m K :=
  ⟨h.1, fun E w B args' h1 h2 h3 => h.2 E w B args' h1 (fun i args m1 K hK => h2 i args m1 K (hΓ _ _ _ _ hK)) h3⟩

theorem wpS_of_wpN {P : Program} {G : List Tmp} : ∀ (x : S) {Γ : YEnv} (hΓ : YMono Γ) {Q : KQ} {s : Fr} {m : Mem}, wpN P G x Γ Q s m → wpS P G x Γ Q s m
  | .skip, Γ, hΓ, Q, s, m, h => h
  | .reg ops, Γ, hΓ, Q, s, m, h => wpOps_mono hΓ (fun s m h => ⟨[], h⟩) _ _ _ (wpOps_of_opsN (c := ⟨P, G, Γ⟩) hΓ ops h)
  | .regD t, Γ, hΓ, Q, s, m, h => wpT_mono hΓ (fun s m h => ⟨[], h⟩) _ _ _ _ (wpT_of_wpTN (c := ⟨P, G, Γ⟩) hΓ t h)
  | .seq x y, Γ, hΓ, Q, s, m, h => wpS_mono x hΓ (fun e s m h => by
    cases e <;> first | exact wpS_of_wpN y hΓ h | exact h) _ _ (wpS_of_wpN x hΓ h)
  | .cond c x y, Γ, hΓ, Q, s, m, h => by
    simp only [wpN, condK] at h
    simp only [wpS]
    split at h
    · rename_i hb; rw [hb]; exact ⟨fun e => wpS_of_wpN x hΓ (h.1 e), fun e => wpS_of_wpN y hΓ (h.2 e)⟩
    · exact h.elim
  | .block id x, Γ, hΓ, Q, s, m, h => wpS_of_wpN x hΓ h
  | .scope x, Γ, hΓ, Q, s, m, h => wpS_of_wpN x hΓ h
  | .loop x, Γ, hΓ, Q, s, m, ⟨I, n, h0, h⟩ => ⟨I, n, h0, fun n s m hI => wpS_of_wpN x hΓ (h n s m hI)⟩
  | .exit id, Γ, hΓ, Q, s, m, h => h
  | .ret, Γ, hΓ, Q, s, m, h => h
  | .rfunc f ps x y, Γ, hΓ, Q, s, m, ⟨g, first, cap, h1, h2⟩ => by
    refine ⟨g, first, cap, h1, h2.env ?_⟩
    rintro i args m' K (⟨rfl, k1, k2, k3⟩ | ⟨hlt, hk⟩)
    · exact .inl ⟨rfl, k1, k2, wpS_mono x hΓ (fun e s m ⟨he, h⟩ => ⟨he, wpS_of_wpN y hΓ h⟩) _ _ (wpS_of_wpN x hΓ k3)⟩
    · exact .inr ⟨hlt, hk⟩

/-- A function's contract, by hand. -/
theorem acallsW {P : Program} {Γ : YEnv} (hΓ : YMono Γ) {g : FuncId} {x : XF} (h : FOk P g x) {args : List Value} {m : Mem} {K : Value → Mem → Prop} (hlen : args.length ≤ x.n)
    (hw : ∀ Q : KQ, (∀ e s m', FQ x.rs K e s m' → Q e s m') → W ⟨P, x.G, Γ⟩ x.c [] Q (argF args) m) : ACalls P Γ g args m K :=
  acalls_fok hΓ h hlen (wpS_of_wpN _ hΓ (hw _ fun _ _ _ h => h))

/-! ### The equations -/
theorem W_seq (x y : S) (ks : List KI) (Q : KQ) (s : Fr) (m : Mem) : W c (.seq x y) ks Q s m = W c x (.code y :: ks) Q s m := id rfl
theorem W_skip (ks : List KI) (Q : KQ) (s : Fr) (m : Mem) : W c .skip ks Q s m = We c .normal ks Q s m := id rfl
theorem W_exit (i : Nat) (ks : List KI) (Q : KQ) (s : Fr) (m : Mem) : W c (.exit i) ks Q s m = We c (.exit i) ks Q s m := id rfl
theorem W_ret (ks : List KI) (Q : KQ) (s : Fr) (m : Mem) : W c .ret ks Q s m = We c .ret ks Q s m := id rfl
theorem W_block (i : Nat) (x : S) (ks : List KI) (Q : KQ) (s : Fr) (m : Mem) : W c (.block i x) ks Q s m = W c x (.blk i :: ks) Q s m := id rfl
theorem W_scope (x : S) (ks : List KI) (Q : KQ) (s : Fr) (m : Mem) : W c (.scope x) ks Q s m = W c x (.scp :: ks) Q s m := id rfl
theorem W_reg (ops : List SOp) (ks : List KI) (Q : KQ) (s : Fr) (m : Mem) : W c (.reg ops) ks Q s m = Wo c ops ks Q s m := id rfl
theorem W_regD (t : Tr) (ks : List KI) (Q : KQ) (s : Fr) (m : Mem) : W c (.regD t) ks Q s m = Wt c t [] ks Q s m := id rfl
/-- A loop, by what holds ahead of each round and a number that each round lowers. -/
theorem W_loop {x : S} {ks : List KI} {Q : KQ} {s : Fr} {m : Mem} (I : Nat → Fr → Mem → Prop) (n : Nat) (h0 : I n s m) (hΓ : YMono c.Γ)
    (h : ∀ n s m, I n s m → ∀ Q' : KQ, (∀ n' s' m', n' < n → I n' s' m' → Q' .normal s' m') → (∀ i s' m', We c (.exit i) ks Q s' m' → Q' (.exit i) s' m') → (∀ s' m', We c .ret ks Q s' m' → Q' .ret s' m') → W c x [] Q' s m) : W c (.loop x) ks Q s m := by
  refine ⟨I, n, h0, fun n s m hI => ?_⟩
  refine h n s m hI _ (fun n' s' m' hn hI' => ⟨n', hn, hI'⟩) (fun i s' m' h => h) (fun s' m' h => h)
theorem We_nil (e : Exit) (Q : KQ) (s : Fr) (m : Mem) : We c e [] Q s m = Q e s m := id rfl
theorem We_code_n (x : S) (ks : List KI) (Q : KQ) (s : Fr) (m : Mem) : We c .normal (.code x :: ks) Q s m = W c x ks Q s m := id rfl
theorem We_code_e (i : Nat) (x : S) (ks : List KI) (Q : KQ) (s : Fr) (m : Mem) : We c (.exit i) (.code x :: ks) Q s m = We c (.exit i) ks Q s m := id rfl
theorem We_code_r (x : S) (ks : List KI) (Q : KQ) (s : Fr) (m : Mem) : We c .ret (.code x :: ks) Q s m = We c .ret ks Q s m := id rfl
theorem We_blk_n (i : Nat) (ks : List KI) (Q : KQ) (s : Fr) (m : Mem) : We c .normal (.blk i :: ks) Q s m = We c .normal ks Q s m := id rfl
theorem We_blk_r (i : Nat) (ks : List KI) (Q : KQ) (s : Fr) (m : Mem) : We c .ret (.blk i :: ks) Q s m = We c .ret ks Q s m := id rfl
theorem We_blk_e (j i : Nat) (ks : List KI) (Q : KQ) (s : Fr) (m : Mem) : We c (.exit j) (.blk i :: ks) Q s m = if j = i then We c .normal ks Q s m else We c (.exit j) ks Q s m := id rfl
theorem We_scp_n (ks : List KI) (Q : KQ) (s : Fr) (m : Mem) : We c .normal (.scp :: ks) Q s m = We c .normal ks Q s m := id rfl
theorem We_scp_r (ks : List KI) (Q : KQ) (s : Fr) (m : Mem) : We c .ret (.scp :: ks) Q s m = We c .ret ks Q s m := id rfl
theorem We_scp_e (j : Nat) (ks : List KI) (Q : KQ) (s : Fr) (m : Mem) : We c (.exit j) (.scp :: ks) Q s m = We c (.exit j) ks Q s m := id rfl

theorem stepW_eq (o : Option (Value × Mem)) (d : Option Tmp) (r : List SOp) (ks : List KI) (Q : KQ) (s : Fr) : optK o (fun q => Wo c r ks Q (putO s d (.val q.1)) q.2) = stepW c o d r ks Q s := by cases o <;> rfl
theorem buildW_eq (o : Option (List Value)) (len : Nat) (d : Option Tmp) (r : List SOp) (ks : List KI) (Q : KQ) (s : Fr) (m : Mem) : optK o (fun cs => Wo c r ks Q (putO s d (.lit len cs)) m) = buildW c o len d r ks Q s m := by cases o <;> rfl
theorem litW_eq (x : Slot) (e : TypeId) (z bytes : Nat) (v : Value) (d : Option Tmp) (r : List SOp) (ks : List KI) (Q : KQ) (s : Fr) (m : Mem) : litK x (fun k cs => cs.length = k * z ∧ optK (appL e z bytes v k cs m) fun q => Wo c r ks Q (putO s d (.val q.1)) q.2) = litW c x e z bytes v d r ks Q s m := by
  cases x with
  | val v => rfl
  | skip => rfl
  | lit k cs => simp only [litK, litW, stepW_eq]
theorem guardW_eq (x : Slot) (want : Bool) (d : Option Tmp) (op : AOp) (r : List SOp) (ks : List KI) (Q : KQ) (s : Fr) (m : Mem) : guardK x want (Wo c (⟨d, op, none⟩ :: r) ks Q s m) (Wo c r ks Q (putO s d .skip) m) = guardW c x want d op r ks Q s m := by
  unfold guardK guardW; split <;> rfl
theorem condW_eq (v : Value) (x y : S) (ks : List KI) (Q : KQ) (s : Fr) (m : Mem) : condK v (W c x ks Q s m) (W c y ks Q s m) = condW c v x y ks Q s m := by
  unfold condK condW; split <;> rfl
theorem W_cond (o : Operand) (x y : S) (ks : List KI) (Q : KQ) (s : Fr) (m : Mem) : W c (.cond o x y) ks Q s m = condW c (evalO s o) x y ks Q s m := condW_eq _ _ _ _ _ _ _
theorem Wo_nil (ks : List KI) (Q : KQ) (s : Fr) (m : Mem) : Wo c [] ks Q s m = We c .normal ks Q (lim c.G s) m := id rfl
theorem Wo_guard (d : Option Tmp) (op : AOp) (g : Tmp) (want : Bool) (r : List SOp) (ks : List KI) (Q : KQ) (s : Fr) (m : Mem) :
    Wo c (⟨d, op, some (g, want)⟩ :: r) ks Q s m = guardW c (s g) want d op r ks Q s m := guardW_eq _ _ _ _ _ _ _ _ _
theorem Wo_mov (d : Option Tmp) (x : Operand) (r : List SOp) (ks : List KI) (Q : KQ) (s : Fr) (m : Mem) : Wo c (⟨d, .mov x, none⟩ :: r) ks Q s m = Wo c r ks Q (putO s d (.val (evalO s x))) m := id rfl
theorem Wo_lit (d : Option Tmp) (e : TypeId) (z len : Nat) (parts : List (Nat × Nat × Operand)) (r : List SOp) (ks : List KI) (Q : KQ) (s : Fr) (m : Mem) :
    Wo c (⟨d, .lit e z len parts, none⟩ :: r) ks Q s m = buildW c (buildA (zeros c.P e len) (parts.map fun p => (p.1, p.2.1, evalO s p.2.2))) len d r ks Q s m := buildW_eq _ _ _ _ _ _ _ _
theorem Wo_app1 (d : Option Tmp) (e : TypeId) (z bytes : Nat) (x : Operand) (t : Tmp) (r : List SOp) (ks : List KI) (Q : KQ) (s : Fr) (m : Mem) :
    Wo c (⟨d, .app1 e z bytes x t, none⟩ :: r) ks Q s m = litW c (s t) e z bytes (evalO s x) d r ks Q s m := litW_eq _ _ _ _ _ _ _ _ _ _ _
theorem Wo_call (d : Option Tmp) (f : Operand) (args : List Operand) (r : List SOp) (ks : List KI) (Q : KQ) (s : Fr) (m : Mem) :
    Wo c (⟨d, .call f args, none⟩ :: r) ks Q s m = callK c.P c.Γ (evalO s f) (args.map (evalO s)) m fun v m' => Wo c r ks Q (putO s d (.val v)) m' := id rfl
theorem Wo_invoke (d : Option Tmp) (f : Operand) (nm : String) (args : List Operand) (r : List SOp) (ks : List KI) (Q : KQ) (s : Fr) (m : Mem) :
    Wo c (⟨d, .invoke f nm args, none⟩ :: r) ks Q s m = invK c.P c.Γ (evalO s f) nm (args.map (evalO s)) m fun v m' => Wo c r ks Q (putO s d (.val v)) m' := id rfl
/-! One operation on values and memory. -/
theorem Wo_pick (d : Option Tmp) (x a b : Operand) (r : List SOp) (ks : List KI) (Q : KQ) (s : Fr) (m : Mem) : Wo c (⟨d, .pick x a b, none⟩ :: r) ks Q s m = stepW c (step c.P (.pick x a b) (evalO s) m) d r ks Q s := stepW_eq (c := c) (step c.P (.pick x a b) (evalO s) m) d r ks Q s
theorem Wo_new (d : Option Tmp) (t : TypeId) (z : Nat) (r : List SOp) (ks : List KI) (Q : KQ) (s : Fr) (m : Mem) : Wo c (⟨d, .new t z, none⟩ :: r) ks Q s m = stepW c (step c.P (.new t z) (evalO s) m) d r ks Q s := stepW_eq (c := c) (step c.P (.new t z) (evalO s) m) d r ks Q s
theorem Wo_box (d : Option Tmp) (t : TypeId) (z : Nat) (x : Operand) (r : List SOp) (ks : List KI) (Q : KQ) (s : Fr) (m : Mem) : Wo c (⟨d, .box t z x, none⟩ :: r) ks Q s m = stepW c (step c.P (.box t z x) (evalO s) m) d r ks Q s := stepW_eq (c := c) (step c.P (.box t z x) (evalO s) m) d r ks Q s
theorem Wo_build (d : Option Tmp) (t : TypeId) (ps : List (Nat × Nat × Operand)) (r : List SOp) (ks : List KI) (Q : KQ) (s : Fr) (m : Mem) : Wo c (⟨d, .build t ps, none⟩ :: r) ks Q s m = stepW c (step c.P (.build t ps) (evalO s) m) d r ks Q s := stepW_eq (c := c) (step c.P (.build t ps) (evalO s) m) d r ks Q s
theorem Wo_bslice (d : Option Tmp) (e : TypeId) (z len : Nat) (ps : List (Nat × Nat × Operand)) (r : List SOp) (ks : List KI) (Q : KQ) (s : Fr) (m : Mem) : Wo c (⟨d, .bslice e z len ps, none⟩ :: r) ks Q s m = stepW c (step c.P (.bslice e z len ps) (evalO s) m) d r ks Q s := stepW_eq (c := c) (step c.P (.bslice e z len ps) (evalO s) m) d r ks Q s
theorem Wo_ld1 (d : Option Tmp) (x : Operand) (r : List SOp) (ks : List KI) (Q : KQ) (s : Fr) (m : Mem) : Wo c (⟨d, .ld1 x, none⟩ :: r) ks Q s m = stepW c (step c.P (.ld1 x) (evalO s) m) d r ks Q s := stepW_eq (c := c) (step c.P (.ld1 x) (evalO s) m) d r ks Q s
theorem Wo_ldN (d : Option Tmp) (n : Nat) (x : Operand) (r : List SOp) (ks : List KI) (Q : KQ) (s : Fr) (m : Mem) : Wo c (⟨d, .ldN n x, none⟩ :: r) ks Q s m = stepW c (step c.P (.ldN n x) (evalO s) m) d r ks Q s := stepW_eq (c := c) (step c.P (.ldN n x) (evalO s) m) d r ks Q s
theorem Wo_st (d : Option Tmp) (n : Nat) (x v : Operand) (r : List SOp) (ks : List KI) (Q : KQ) (s : Fr) (m : Mem) : Wo c (⟨d, .st n x v, none⟩ :: r) ks Q s m = stepW c (step c.P (.st n x v) (evalO s) m) d r ks Q s := stepW_eq (c := c) (step c.P (.st n x v) (evalO s) m) d r ks Q s
theorem Wo_nilck (d : Option Tmp) (x : Operand) (r : List SOp) (ks : List KI) (Q : KQ) (s : Fr) (m : Mem) : Wo c (⟨d, .nilck x, none⟩ :: r) ks Q s m = stepW c (step c.P (.nilck x) (evalO s) m) d r ks Q s := stepW_eq (c := c) (step c.P (.nilck x) (evalO s) m) d r ks Q s
theorem Wo_bin (d : Option Tmp) (op : BinOp) (x y : Operand) (r : List SOp) (ks : List KI) (Q : KQ) (s : Fr) (m : Mem) : Wo c (⟨d, .bin op x y, none⟩ :: r) ks Q s m = stepW c (step c.P (.bin op x y) (evalO s) m) d r ks Q s := stepW_eq (c := c) (step c.P (.bin op x y) (evalO s) m) d r ks Q s
theorem Wo_isnil (d : Option Tmp) (ng : Bool) (kn : Nat) (x : Operand) (r : List SOp) (ks : List KI) (Q : KQ) (s : Fr) (m : Mem) : Wo c (⟨d, .isnil ng kn x, none⟩ :: r) ks Q s m = stepW c (step c.P (.isnil ng kn x) (evalO s) m) d r ks Q s := stepW_eq (c := c) (step c.P (.isnil ng kn x) (evalO s) m) d r ks Q s
theorem Wo_beq (d : Option Tmp) (ng : Bool) (x y : Operand) (r : List SOp) (ks : List KI) (Q : KQ) (s : Fr) (m : Mem) : Wo c (⟨d, .beq ng x y, none⟩ :: r) ks Q s m = stepW c (step c.P (.beq ng x y) (evalO s) m) d r ks Q s := stepW_eq (c := c) (step c.P (.beq ng x y) (evalO s) m) d r ks Q s
theorem Wo_not (d : Option Tmp) (x : Operand) (r : List SOp) (ks : List KI) (Q : KQ) (s : Fr) (m : Mem) : Wo c (⟨d, .not x, none⟩ :: r) ks Q s m = stepW c (step c.P (.not x) (evalO s) m) d r ks Q s := stepW_eq (c := c) (step c.P (.not x) (evalO s) m) d r ks Q s
theorem Wo_neg (d : Option Tmp) (x : Operand) (r : List SOp) (ks : List KI) (Q : KQ) (s : Fr) (m : Mem) : Wo c (⟨d, .neg x, none⟩ :: r) ks Q s m = stepW c (step c.P (.neg x) (evalO s) m) d r ks Q s := stepW_eq (c := c) (step c.P (.neg x) (evalO s) m) d r ks Q s
theorem Wo_conv (d : Option Tmp) (kn : IntKind) (x : Operand) (r : List SOp) (ks : List KI) (Q : KQ) (s : Fr) (m : Mem) : Wo c (⟨d, .conv kn x, none⟩ :: r) ks Q s m = stepW c (step c.P (.conv kn x) (evalO s) m) d r ks Q s := stepW_eq (c := c) (step c.P (.conv kn x) (evalO s) m) d r ks Q s
theorem Wo_iface (d : Option Tmp) (t : TypeId) (x : Operand) (r : List SOp) (ks : List KI) (Q : KQ) (s : Fr) (m : Mem) : Wo c (⟨d, .iface t x, none⟩ :: r) ks Q s m = stepW c (step c.P (.iface t x) (evalO s) m) d r ks Q s := stepW_eq (c := c) (step c.P (.iface t x) (evalO s) m) d r ks Q s
theorem Wo_mkfunc (d : Option Tmp) (fn : FuncId) (a b : List Operand) (r : List SOp) (ks : List KI) (Q : KQ) (s : Fr) (m : Mem) : Wo c (⟨d, .mkfunc fn a b, none⟩ :: r) ks Q s m = stepW c (step c.P (.mkfunc fn a b) (evalO s) m) d r ks Q s := stepW_eq (c := c) (step c.P (.mkfunc fn a b) (evalO s) m) d r ks Q s
theorem Wo_mkmap (d : Option Tmp)  (r : List SOp) (ks : List KI) (Q : KQ) (s : Fr) (m : Mem) : Wo c (⟨d, .mkmap, none⟩ :: r) ks Q s m = stepW c (step c.P .mkmap (evalO s) m) d r ks Q s := stepW_eq (c := c) (step c.P .mkmap (evalO s) m) d r ks Q s
theorem Wo_mkslice (d : Option Tmp) (e : TypeId) (z bytes : Nat) (x y : Operand) (r : List SOp) (ks : List KI) (Q : KQ) (s : Fr) (m : Mem) : Wo c (⟨d, .mkslice e z bytes x y, none⟩ :: r) ks Q s m = stepW c (step c.P (.mkslice e z bytes x y) (evalO s) m) d r ks Q s := stepW_eq (c := c) (step c.P (.mkslice e z bytes x y) (evalO s) m) d r ks Q s
theorem Wo_sl (d : Option Tmp) (z : Nat) (x : Operand) (lo hi mx : Option Operand) (r : List SOp) (ks : List KI) (Q : KQ) (s : Fr) (m : Mem) : Wo c (⟨d, .sl z x lo hi mx, none⟩ :: r) ks Q s m = stepW c (step c.P (.sl z x lo hi mx) (evalO s) m) d r ks Q s := stepW_eq (c := c) (step c.P (.sl z x lo hi mx) (evalO s) m) d r ks Q s
theorem Wo_slArr (d : Option Tmp) (n z : Nat) (x : Operand) (lo hi mx : Option Operand) (r : List SOp) (ks : List KI) (Q : KQ) (s : Fr) (m : Mem) : Wo c (⟨d, .slArr n z x lo hi mx, none⟩ :: r) ks Q s m = stepW c (step c.P (.slArr n z x lo hi mx) (evalO s) m) d r ks Q s := stepW_eq (c := c) (step c.P (.slArr n z x lo hi mx) (evalO s) m) d r ks Q s
theorem Wo_off (d : Option Tmp) (x : Operand) (o : Nat) (r : List SOp) (ks : List KI) (Q : KQ) (s : Fr) (m : Mem) : Wo c (⟨d, .off x o, none⟩ :: r) ks Q s m = stepW c (step c.P (.off x o) (evalO s) m) d r ks Q s := stepW_eq (c := c) (step c.P (.off x o) (evalO s) m) d r ks Q s
theorem Wo_ixArr (d : Option Tmp) (n z : Nat) (x i : Operand) (r : List SOp) (ks : List KI) (Q : KQ) (s : Fr) (m : Mem) : Wo c (⟨d, .ixArr n z x i, none⟩ :: r) ks Q s m = stepW c (step c.P (.ixArr n z x i) (evalO s) m) d r ks Q s := stepW_eq (c := c) (step c.P (.ixArr n z x i) (evalO s) m) d r ks Q s
theorem Wo_ixSl (d : Option Tmp) (z : Nat) (x i : Operand) (r : List SOp) (ks : List KI) (Q : KQ) (s : Fr) (m : Mem) : Wo c (⟨d, .ixSl z x i, none⟩ :: r) ks Q s m = stepW c (step c.P (.ixSl z x i) (evalO s) m) d r ks Q s := stepW_eq (c := c) (step c.P (.ixSl z x i) (evalO s) m) d r ks Q s
theorem Wo_fld1 (d : Option Tmp) (o : Nat) (x : Operand) (r : List SOp) (ks : List KI) (Q : KQ) (s : Fr) (m : Mem) : Wo c (⟨d, .fld1 o x, none⟩ :: r) ks Q s m = stepW c (step c.P (.fld1 o x) (evalO s) m) d r ks Q s := stepW_eq (c := c) (step c.P (.fld1 o x) (evalO s) m) d r ks Q s
theorem Wo_fldN (d : Option Tmp) (o n : Nat) (x : Operand) (r : List SOp) (ks : List KI) (Q : KQ) (s : Fr) (m : Mem) : Wo c (⟨d, .fldN o n x, none⟩ :: r) ks Q s m = stepW c (step c.P (.fldN o n x) (evalO s) m) d r ks Q s := stepW_eq (c := c) (step c.P (.fldN o n x) (evalO s) m) d r ks Q s
theorem Wo_ixVal1 (d : Option Tmp) (n : Nat) (x i : Operand) (r : List SOp) (ks : List KI) (Q : KQ) (s : Fr) (m : Mem) : Wo c (⟨d, .ixVal1 n x i, none⟩ :: r) ks Q s m = stepW c (step c.P (.ixVal1 n x i) (evalO s) m) d r ks Q s := stepW_eq (c := c) (step c.P (.ixVal1 n x i) (evalO s) m) d r ks Q s
theorem Wo_ixValN (d : Option Tmp) (n z : Nat) (x i : Operand) (r : List SOp) (ks : List KI) (Q : KQ) (s : Fr) (m : Mem) : Wo c (⟨d, .ixValN n z x i, none⟩ :: r) ks Q s m = stepW c (step c.P (.ixValN n z x i) (evalO s) m) d r ks Q s := stepW_eq (c := c) (step c.P (.ixValN n z x i) (evalO s) m) d r ks Q s
theorem Wo_ext (d : Option Tmp) (x : Operand) (i : Nat) (r : List SOp) (ks : List KI) (Q : KQ) (s : Fr) (m : Mem) : Wo c (⟨d, .ext x i, none⟩ :: r) ks Q s m = stepW c (step c.P (.ext x i) (evalO s) m) d r ks Q s := stepW_eq (c := c) (step c.P (.ext x i) (evalO s) m) d r ks Q s
theorem Wo_len (d : Option Tmp) (kn : Nat) (x : Operand) (r : List SOp) (ks : List KI) (Q : KQ) (s : Fr) (m : Mem) : Wo c (⟨d, .len kn x, none⟩ :: r) ks Q s m = stepW c (step c.P (.len kn x) (evalO s) m) d r ks Q s := stepW_eq (c := c) (step c.P (.len kn x) (evalO s) m) d r ks Q s
theorem Wo_lenC (d : Option Tmp) (n : Nat) (r : List SOp) (ks : List KI) (Q : KQ) (s : Fr) (m : Mem) : Wo c (⟨d, .lenC n, none⟩ :: r) ks Q s m = stepW c (step c.P (.lenC n) (evalO s) m) d r ks Q s := stepW_eq (c := c) (step c.P (.lenC n) (evalO s) m) d r ks Q s
theorem Wo_minmax (d : Option Tmp) (b : Bool) (xs : List Operand) (r : List SOp) (ks : List KI) (Q : KQ) (s : Fr) (m : Mem) : Wo c (⟨d, .minmax b xs, none⟩ :: r) ks Q s m = stepW c (step c.P (.minmax b xs) (evalO s) m) d r ks Q s := stepW_eq (c := c) (step c.P (.minmax b xs) (evalO s) m) d r ks Q s
theorem Wo_app (d : Option Tmp) (e : TypeId) (z bytes : Nat) (x y : Operand) (r : List SOp) (ks : List KI) (Q : KQ) (s : Fr) (m : Mem) : Wo c (⟨d, .app e z bytes x y, none⟩ :: r) ks Q s m = stepW c (step c.P (.app e z bytes x y) (evalO s) m) d r ks Q s := stepW_eq (c := c) (step c.P (.app e z bytes x y) (evalO s) m) d r ks Q s
theorem Wo_look (d : Option Tmp) (e : TypeId) (x i : Operand) (ok : Bool) (r : List SOp) (ks : List KI) (Q : KQ) (s : Fr) (m : Mem) : Wo c (⟨d, .look e x i ok, none⟩ :: r) ks Q s m = stepW c (step c.P (.look e x i ok) (evalO s) m) d r ks Q s := stepW_eq (c := c) (step c.P (.look e x i ok) (evalO s) m) d r ks Q s
theorem Wo_mapset (d : Option Tmp) (x i v : Operand) (r : List SOp) (ks : List KI) (Q : KQ) (s : Fr) (m : Mem) : Wo c (⟨d, .mapset x i v, none⟩ :: r) ks Q s m = stepW c (step c.P (.mapset x i v) (evalO s) m) d r ks Q s := stepW_eq (c := c) (step c.P (.mapset x i v) (evalO s) m) d r ks Q s

theorem stepW_some (v : Value) (m : Mem) (d : Option Tmp) (r : List SOp) (ks : List KI) (Q : KQ) (s : Fr) : stepW c (some (v, m)) d r ks Q s = Wo c r ks Q (putO s d (.val v)) m := id rfl
theorem stepW_ite (p : Prop) [Decidable p] (o : Option (Value × Mem)) (d : Option Tmp) (r : List SOp) (ks : List KI) (Q : KQ) (s : Fr) : stepW c (if p then o else none) d r ks Q s = (p ∧ stepW c o d r ks Q s) := by
  by_cases h : p <;> simp [h, stepW]
theorem stepW_ite' (p : Prop) [Decidable p] (o : Option (Value × Mem)) (d : Option Tmp) (r : List SOp) (ks : List KI) (Q : KQ) (s : Fr) : stepW c (if p then none else o) d r ks Q s = (¬p ∧ stepW c o d r ks Q s) := by
  by_cases h : p <;> simp [h, stepW]
section
variable (d : Option Tmp) (op : AOp) (r : List SOp) (x y : S) (ks : List KI) (Q : KQ) (s : Fr) (m : Mem)
theorem guardW_skip (want : Bool) : guardW c .skip want d op r ks Q s m = Wo c r ks Q (putO s d .skip) m := id rfl
theorem guardW_tt : guardW c (.val (.bool true)) true d op r ks Q s m = Wo c (⟨d, op, none⟩ :: r) ks Q s m := id rfl
theorem guardW_tf : guardW c (.val (.bool true)) false d op r ks Q s m = Wo c r ks Q (putO s d .skip) m := id rfl
theorem guardW_ft : guardW c (.val (.bool false)) true d op r ks Q s m = Wo c r ks Q (putO s d .skip) m := id rfl
theorem guardW_ff : guardW c (.val (.bool false)) false d op r ks Q s m = Wo c (⟨d, op, none⟩ :: r) ks Q s m := id rfl
theorem condW_t : condW c (.bool true) x y ks Q s m = W c x ks Q s m := by simp [condW]
theorem condW_f : condW c (.bool false) x y ks Q s m = W c y ks Q s m := by simp [condW]
theorem condW_dec (p : Prop) [Decidable p] : condW c (.bool (decide p)) x y ks Q s m = ((p → W c x ks Q s m) ∧ (¬p → W c y ks Q s m)) := by simp [condW]
theorem litW_lit (k : Nat) (cs : List Value) (e : TypeId) (z bytes : Nat) (v : Value) : litW c (.lit k cs) e z bytes v d r ks Q s m = (cs.length = k * z ∧ stepW c (appL e z bytes v k cs m) d r ks Q s) := id rfl
theorem buildW_some (cs : List Value) (len : Nat) : buildW c (some cs) len d r ks Q s m = Wo c r ks Q (putO s d (.lit len cs)) m := id rfl
theorem qW_some (z : Slot) (t : Tr) (fl : FL) : qW c (some z) d t fl ks Q s m = Wt c t fl ks Q (putO s d z) m := id rfl
end
/-! ### Trees of orders -/
theorem Wt_fin (fl : FL) (ks : List KI) (Q : KQ) (s : Fr) (m : Mem) : Wt c .fin fl ks Q s m = We c .normal ks Q (lim c.G s) m := id rfl
/-- A quiet operation without a flag. -/
theorem Wt_q {i : Nat} {d : Option Tmp} {op : AOp} {t : Tr} {fl : FL} {ks : List KI} {Q : KQ} {s : Fr} {m : Mem} : Wt c (.q i false ⟨d, op, none⟩ t) fl ks Q s m = qW c (qv c.P ⟨d, op, none⟩ s m) d t fl ks Q s m := by
  unfold Wt qW
  dsimp only [wpTN]
  unfold optK
  cases qv c.P ⟨d, op, none⟩ s m <;> rfl
theorem Wt_qf {i : Nat} {d : Option Tmp} {op : AOp} {t : Tr} {fl : FL} {ks : List KI} {Q : KQ} {s : Fr} {m : Mem} : Wt c (.q i true ⟨d, op, none⟩ t) fl ks Q s m = qW c (qv c.P ⟨d, op, none⟩ s m) d t ((i, fun m => qv c.P ⟨d, op, none⟩ s m) :: fl) ks Q s m := by
  unfold Wt qW
  dsimp only [wpTN]
  unfold optK
  cases qv c.P ⟨d, op, none⟩ s m <;> rfl
theorem Wt_qg {i : Nat} {f : Bool} {d : Option Tmp} {op : AOp} {g : Tmp} {want : Bool} {t : Tr} {fl : FL} {ks : List KI} {Q : KQ} {s : Fr} {m : Mem} :
    Wt c (.q i f ⟨d, op, some (g, want)⟩ t) fl ks Q s m = qW c (qv c.P ⟨d, op, some (g, want)⟩ s m) d t (if f then (i, fun m => qv c.P ⟨d, op, some (g, want)⟩ s m) :: fl else fl) ks Q s m := by
  unfold Wt qW
  dsimp only [wpTN]
  unfold optK
  cases qv c.P ⟨d, op, some (g, want)⟩ s m <;> rfl
/-- A turning operation: what was read ahead stays. -/
def mW (c : Cx) (chk : List Nat) (o : Option (Value × Mem)) (d : Option Tmp) (t : Tr) (fl : FL) (ks : List KI) (Q : KQ) (s : Fr) (m : Mem) : Prop := match o with
  | some q => FlOk chk fl m q.2 ∧ Wt c t fl ks Q (putO s d (.val q.1)) q.2
  | none => False
theorem mW_eq (chk : List Nat) (o : Option (Value × Mem)) (d : Option Tmp) (t : Tr) (fl : FL) (ks : List KI) (Q : KQ) (s : Fr) (m : Mem) : optK o (fun q => FlOk chk fl m q.2 ∧ Wt c t fl ks Q (putO s d (.val q.1)) q.2) = mW c chk o d t fl ks Q s m := by cases o <;> rfl
theorem mW_some (chk : List Nat) (v : Value) (m' : Mem) (d : Option Tmp) (t : Tr) (fl : FL) (ks : List KI) (Q : KQ) (s : Fr) (m : Mem) : mW c chk (some (v, m')) d t fl ks Q s m = (FlOk chk fl m m' ∧ Wt c t fl ks Q (putO s d (.val v)) m') := id rfl
theorem Wt_mnew {i : Nat} {chk : List Nat} {d : Option Tmp} {ty : TypeId} {z : Nat} {t : Tr} {fl : FL} {ks : List KI} {Q : KQ} {s : Fr} {m : Mem} : Wt c (.m i chk ⟨d, .new ty z, none⟩ t) fl ks Q s m = mW c chk (step c.P (.new ty z) (evalO s) m) d t fl ks Q s m := mW_eq (c := c) chk (step c.P (.new ty z) (evalO s) m) d t fl ks Q s m
theorem Wt_mbox {i : Nat} {chk : List Nat} {d : Option Tmp} {ty : TypeId} {z : Nat} {x : Operand} {t : Tr} {fl : FL} {ks : List KI} {Q : KQ} {s : Fr} {m : Mem} : Wt c (.m i chk ⟨d, .box ty z x, none⟩ t) fl ks Q s m = mW c chk (step c.P (.box ty z x) (evalO s) m) d t fl ks Q s m := mW_eq _ _ _ _ _ _ _ _ _
theorem Wt_mbslice {i : Nat} {chk : List Nat} {d : Option Tmp} {e : TypeId} {z len : Nat} {ps : List (Nat × Nat × Operand)} {t : Tr} {fl : FL} {ks : List KI} {Q : KQ} {s : Fr} {m : Mem} : Wt c (.m i chk ⟨d, .bslice e z len ps, none⟩ t) fl ks Q s m = mW c chk (step c.P (.bslice e z len ps) (evalO s) m) d t fl ks Q s m := mW_eq _ _ _ _ _ _ _ _ _
theorem Wt_mst {i : Nat} {chk : List Nat} {d : Option Tmp} {n : Nat} {x v : Operand} {t : Tr} {fl : FL} {ks : List KI} {Q : KQ} {s : Fr} {m : Mem} : Wt c (.m i chk ⟨d, .st n x v, none⟩ t) fl ks Q s m = mW c chk (step c.P (.st n x v) (evalO s) m) d t fl ks Q s m := mW_eq _ _ _ _ _ _ _ _ _
theorem Wt_mapp {i : Nat} {chk : List Nat} {d : Option Tmp} {e : TypeId} {z b : Nat} {x y : Operand} {t : Tr} {fl : FL} {ks : List KI} {Q : KQ} {s : Fr} {m : Mem} : Wt c (.m i chk ⟨d, .app e z b x y, none⟩ t) fl ks Q s m = mW c chk (step c.P (.app e z b x y) (evalO s) m) d t fl ks Q s m := mW_eq _ _ _ _ _ _ _ _ _
theorem Wt_mmkmap {i : Nat} {chk : List Nat} {d : Option Tmp} {t : Tr} {fl : FL} {ks : List KI} {Q : KQ} {s : Fr} {m : Mem} : Wt c (.m i chk ⟨d, .mkmap, none⟩ t) fl ks Q s m = mW c chk (step c.P .mkmap (evalO s) m) d t fl ks Q s m := mW_eq (c := c) chk (step c.P .mkmap (evalO s) m) d t fl ks Q s m
theorem Wt_mmapset {i : Nat} {chk : List Nat} {d : Option Tmp} {x k v : Operand} {t : Tr} {fl : FL} {ks : List KI} {Q : KQ} {s : Fr} {m : Mem} : Wt c (.m i chk ⟨d, .mapset x k v, none⟩ t) fl ks Q s m = mW c chk (step c.P (.mapset x k v) (evalO s) m) d t fl ks Q s m := mW_eq _ _ _ _ _ _ _ _ _
theorem Wt_mmkslice {i : Nat} {chk : List Nat} {d : Option Tmp} {e : TypeId} {z b : Nat} {x y : Operand} {t : Tr} {fl : FL} {ks : List KI} {Q : KQ} {s : Fr} {m : Mem} : Wt c (.m i chk ⟨d, .mkslice e z b x y, none⟩ t) fl ks Q s m = mW c chk (step c.P (.mkslice e z b x y) (evalO s) m) d t fl ks Q s m := mW_eq _ _ _ _ _ _ _ _ _
theorem Wt_mcall {i : Nat} {chk : List Nat} {d : Option Tmp} {f : Operand} {args : List Operand} {t : Tr} {fl : FL} {ks : List KI} {Q : KQ} {s : Fr} {m : Mem} : Wt c (.m i chk ⟨d, .call f args, none⟩ t) fl ks Q s m = callK c.P c.Γ (evalO s f) (args.map (evalO s)) m (fun v m' => FlOk chk fl m m' ∧ Wt c t fl ks Q (putO s d (.val v)) m') := id rfl
theorem Wt_minvoke {i : Nat} {chk : List Nat} {d : Option Tmp} {f : Operand} {nm : String} {args : List Operand} {t : Tr} {fl : FL} {ks : List KI} {Q : KQ} {s : Fr} {m : Mem} : Wt c (.m i chk ⟨d, .invoke f nm args, none⟩ t) fl ks Q s m = invK c.P c.Γ (evalO s f) nm (args.map (evalO s)) m (fun v m' => FlOk chk fl m m' ∧ Wt c t fl ks Q (putO s d (.val v)) m') := id rfl
/-- An append of a literal. -/
def mlitW (c : Cx) (chk : List Nat) (x : Slot) (e : TypeId) (z bytes : Nat) (v : Value) (d : Option Tmp) (t : Tr) (fl : FL) (ks : List KI) (Q : KQ) (s : Fr) (m : Mem) : Prop := match x with
  | .lit k cs => cs.length = k * z ∧ mW c chk (appL e z bytes v k cs m) d t fl ks Q s m
  | _ => False
theorem mlitW_lit (chk : List Nat) (k : Nat) (cs : List Value) (e : TypeId) (z bytes : Nat) (v : Value) (d : Option Tmp) (t : Tr) (fl : FL) (ks : List KI) (Q : KQ) (s : Fr) (m : Mem) : mlitW c chk (.lit k cs) e z bytes v d t fl ks Q s m = (cs.length = k * z ∧ mW c chk (appL e z bytes v k cs m) d t fl ks Q s m) := id rfl
theorem Wt_mapp1 {i : Nat} {chk : List Nat} {d : Option Tmp} {e : TypeId} {z bytes : Nat} {x : Operand} {y : Tmp} {t : Tr} {fl : FL} {ks : List KI} {Q : KQ} {s : Fr} {m : Mem} : Wt c (.m i chk ⟨d, .app1 e z bytes x y, none⟩ t) fl ks Q s m = mlitW c chk (s y) e z bytes (evalO s x) d t fl ks Q s m := by
  unfold Wt mlitW
  dsimp only [wpTN, opN]
  unfold litK
  cases s y with
  | val v => rfl
  | skip => rfl
  | lit k cs => exact congrArg _ (mW_eq (c := c) chk (appL e z bytes (evalO s x) k cs m) d t fl ks Q s m)
/-- A guarded one. -/
def mguardW (c : Cx) (x : Slot) (want : Bool) (i : Nat) (chk : List Nat) (d : Option Tmp) (op : AOp) (t : Tr) (fl : FL) (ks : List KI) (Q : KQ) (s : Fr) (m : Mem) : Prop := match x with
  | .val (.bool b) => if b = want then Wt c (.m i chk ⟨d, op, none⟩ t) fl ks Q s m else FlOk chk fl m m ∧ Wt c t fl ks Q (putO s d .skip) m
  | .skip => FlOk chk fl m m ∧ Wt c t fl ks Q (putO s d .skip) m
  | _ => False
theorem Wt_mg {i : Nat} {chk : List Nat} {d : Option Tmp} {op : AOp} {g : Tmp} {want : Bool} {t : Tr} {fl : FL} {ks : List KI} {Q : KQ} {s : Fr} {m : Mem} : Wt c (.m i chk ⟨d, op, some (g, want)⟩ t) fl ks Q s m = mguardW c (s g) want i chk d op t fl ks Q s m := by
  unfold mguardW
  show guardK (s g) want _ _ = _
  unfold guardK; split <;> rfl
section
variable (i : Nat) (chk : List Nat) (d : Option Tmp) (op : AOp) (t : Tr) (fl : FL) (ks : List KI) (Q : KQ) (s : Fr) (m : Mem)
theorem mguardW_skip (want : Bool) : mguardW c .skip want i chk d op t fl ks Q s m = (FlOk chk fl m m ∧ Wt c t fl ks Q (putO s d .skip) m) := id rfl
theorem mguardW_tt : mguardW c (.val (.bool true)) true i chk d op t fl ks Q s m = Wt c (.m i chk ⟨d, op, none⟩ t) fl ks Q s m := id rfl
theorem mguardW_ff : mguardW c (.val (.bool false)) false i chk d op t fl ks Q s m = Wt c (.m i chk ⟨d, op, none⟩ t) fl ks Q s m := id rfl
theorem mguardW_tf : mguardW c (.val (.bool true)) false i chk d op t fl ks Q s m = (FlOk chk fl m m ∧ Wt c t fl ks Q (putO s d .skip) m) := id rfl
theorem mguardW_ft : mguardW c (.val (.bool false)) true i chk d op t fl ks Q s m = (FlOk chk fl m m ∧ Wt c t fl ks Q (putO s d .skip) m) := id rfl
end
theorem Wt_alt (x y : Tr) (fl : FL) (ks : List KI) (Q : KQ) (s : Fr) (m : Mem) : Wt c (.alt x y) fl ks Q s m = (Wt c x fl ks Q s m ∧ Wt c y fl ks Q s m) := id rfl
theorem FlOk_nil (chk : List Nat) (m m' : Mem) : FlOk chk [] m m' = True := by simp [FlOk]
theorem FlOk_nochk (fl : FL) (m m' : Mem) : FlOk [] fl m m' = True := by simp [FlOk]
theorem FlOk_same (chk : List Nat) (fl : FL) (m : Mem) : FlOk chk fl m m = True := by simp [FlOk]
theorem FlOk_cons (chk : List Nat) (i : Nat) (f : Mem → Option Slot) (fl : FL) (m m' : Mem) : FlOk chk ((i, f) :: fl) m m' = ((chk.contains i = true → f m' = f m) ∧ FlOk chk fl m m') := by simp [FlOk]
theorem qv_none (o : SOp) (h : o.guard = none) (s : Fr) (m : Mem) : qv c.P o s m = qvK c.P o s m := by unfold qv; rw [h]

end

end Go.Proofs.Ytnhodgonmceojaa.Sh
