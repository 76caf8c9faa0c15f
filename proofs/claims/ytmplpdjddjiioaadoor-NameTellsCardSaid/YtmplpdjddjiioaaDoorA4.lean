/-
  The generic layer, part 4: code, as a machine whose rest is data ('run').
-/
import Derived.Test.YtmplpdjddjiioaaDoorA3
namespace Go.Ab

/-- What is still to be done. -/
inductive It where
  | code (c : Code)
  | ops (all : Array Oper) (r : List Oper)
  | blk (i : Nat)

def msz : Code → Nat
  | .region _ ops _ => ops.toList.length + 2
  | .seq a b => msz a + msz b + 1
  | .cond _ a b => msz a + msz b + 1
  | .block _ b => msz b + 2
  | _ => 1
def It.msz : It → Nat
  | .code c => Ab.msz c
  | .ops _ r => r.length + 1
  | .blk _ => 1
def kmsz : List It → Nat
  | [] => 0
  | i :: k => i.msz + kmsz k
theorem msz_pos (c : Code) : 0 < msz c := by cases c <;> simp [msz]
theorem It.msz_pos (i : It) : 0 < i.msz := by cases i <;> simp [It.msz, Ab.msz_pos]

/-- Where an exit leads. -/
def exitK (i : Nat) : List It → Option (List It)
  | [] => none
  | .blk j :: k => if j = i then some k else exitK i k
  | _ :: k => exitK i k
theorem exitK_le (i : Nat) : ∀ (k k' : List It), exitK i k = some k' → kmsz k' ≤ kmsz k
  | [], k', h => by cases h
  | .blk j :: k, k', h => by
    simp only [exitK] at h
    split at h
    · cases h; simp [kmsz]
    · have := exitK_le i k k' h; simp [kmsz]; omega
  | .code c :: k, k', h => by have := exitK_le i k k' h; simp [kmsz]; omega
  | .ops _ r :: k, k', h => by have := exitK_le i k k' h; simp [kmsz]; omega

def R.run : R St → (St → Prop) → Prop → Prop
  | .ok s, f, _ => f s
  | .need p r, f, z => p ∧ r.run f z
  | .no, _, z => z

/-- A walk's setting: how many temporaries; the round of a range over a function, if it is in one; the heads of the names that were handed in. -/
structure Cf where
  n : Nat
  ro : Option Nat
  G : List (Nat × Obj)
  U : List Nat
def Cf.fits (c : Cf) (B : Base) : Prop := B.n = c.n ∧ B.U0 = c.U ∧ B.G = c.G

section
variable (P : Program) (cf : Cf)

/-- The fence that lets all in; in a round of a range over a function: of that round. -/
def Fw (ro : Option Nat) : Fence := { Fence.wide with round := ro }

/-- What is asked of the state in which an item list begins, at the machine. -/
def hold (Q : Exit → Act → World → Prop) : List It → Exit → Act → World → Prop
  | [], e, a, w => Q e a w
  | .code c :: k, e, a, w => match e with
    | .normal => c.wpIn (Fw cf.ro) 0 P (hold Q k) a w
    | e => hold Q k e a w
  | .ops all r :: k, e, a, w => match e with
    | .normal => ∀ (l : List Nat), l.map (all[·]?) = r.map some → wpOpsIn (Fw cf.ro) 0 P all (hold Q k) l a w
    | e => hold Q k e a w
  | .blk i :: k, e, a, w => match e with
    | .normal => hold Q k .normal a w
    | .exit j => if j = i then hold Q k .normal a w else hold Q k (.exit j) a w
    | e => hold Q k e a w

/-- A post of states, at the machine. -/
def lift (B : Base) (ds : List Deferred) (Q : Exit → St → Prop) (e : Exit) (a : Act) (w : World) : Prop :=
  a.defers = ds ∧ ∃ s β, Q e s ∧ Sim B β s a.tmps w

/-- From each machine state that the abstract state stands for the items lead where Q holds. -/
def ARun (k : List It) (Q : Exit → St → Prop) (s : St) : Prop :=
  ∀ (B : Base), cf.fits B → ∀ ds β a w, a.defers = ds → Sim B β s a.tmps w → hold P cf (lift B ds Q) k .normal a w

/-- An operation of which the steps say nothing. -/
def AOk (o : Oper) (s : St) (k : List It) (Q : Exit → St → Prop) : Prop :=
  ∀ (B : Base), cf.fits B → ∀ ds β a w, a.defers = ds → Sim B β s a.tmps w → ∀ Q', o.wpIn (Fw cf.ro) 0 P a w (fun a' w' => a'.defers = ds ∧ ∃ s' β', ARun P cf k Q s' ∧ Sim B β' s' a'.tmps w') Q'
/-- Code of which the steps say nothing. -/
def ACk (c : Code) (s : St) (k : List It) (Q : Exit → St → Prop) : Prop := ARun P cf (.code c :: k) Q s

def guardV (all : Array Oper) (j : Nat) (s : St) : Option (Nat × AV) :=
  match all[j]? with
  | some o => o.dst.map fun t => (t, s.fr t)
  | none => none

def run : List It → (Exit → St → Prop) → St → Prop
  | [], Q, s => Q .normal s
  | .blk _ :: k, Q, s => run k Q s
  | .ops _ [] :: k, Q, s => run k Q s
  | .ops all (o :: r) :: k, Q, s =>
    match o.guard with
    | none => (opR P.ti cf.n o.op o.dst s).run (fun s' => run (.ops all r :: k) Q s') (AOk P cf o s (.ops all r :: k) Q)
    | some (j, want) =>
      match guardV all j s with
      | some (t, .d (.bool b)) =>
        (b = want → (opR P.ti cf.n o.op o.dst (s.put t (.d (.bool want)))).run (fun s' => run (.ops all r :: k) Q s') (AOk P cf { o with guard := none } (s.put t (.d (.bool want))) (.ops all r :: k) Q)) ∧
        (b = !want → (putR cf.n o.dst (s.put t (.d (.bool (!want)))) (.tup [])).run (fun s' => run (.ops all r :: k) Q s') False)
      | some (_, .tup []) => (putR cf.n o.dst s (.tup [])).run (fun s' => run (.ops all r :: k) Q s') False
      | _ => False
  | .code .skip :: k, Q, s => run k Q s
  | .code (.region _ ops false) :: k, Q, s => run (.ops ops ops.toList :: k) Q s
  | .code (.region i ops true) :: k, Q, s => ACk P cf (.region i ops true) s k Q
  | .code (.seq a b) :: k, Q, s => run (.code a :: .code b :: k) Q s
  | .code (.cond c a b) :: k, Q, s =>
    match ev s c with
    | .d (.bool t) => (t = true → run (.code a :: k) Q s) ∧ (t = false → run (.code b :: k) Q s)
    | _ => False
  | .code (.block i c) :: k, Q, s => run (.code c :: .blk i :: k) Q s
  | .code (.exit i) :: k, Q, s => match _h : exitK i k with
    | some k' => run k' Q s
    | none => Q (.exit i) s
  | .code .ret :: _, Q, s => Q .ret s
  | .code c :: k, Q, s => ACk P cf c s k Q
termination_by k => kmsz k
decreasing_by
  all_goals simp only [kmsz, It.msz, msz, List.length_cons, List.length_nil]
  all_goals first
    | omega
    | (have := msz_pos ‹_›; omega)
    | (have := exitK_le _ _ _ _h; omega)
end
end Go.Ab
