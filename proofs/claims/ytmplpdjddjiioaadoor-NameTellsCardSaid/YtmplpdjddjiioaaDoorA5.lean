/-
  The generic layer, part 5: the steps as rules for simp.
-/
import Derived.Test.YtmplpdjddjiioaaDoorA4
import Derived.Attr
namespace Go.Ab
section
variable (P : Program) (cf : Cf)

def stp (r : R St) (o : Oper) (s : St) (k : List It) (Q : Exit → St → Prop) : Prop := r.run (fun s' => run P cf k Q s') (AOk P cf o s k Q)
def gd (v : Option (Nat × AV)) (want : Bool) (all : Array Oper) (o : Oper) (r : List Oper) (s : St) (k : List It) (Q : Exit → St → Prop) : Prop :=
  match v with
  | some (t, .d (.bool b)) =>
    (b = want → stp P cf (opR P.ti cf.n o.op o.dst (s.put t (.d (.bool want)))) { o with guard := none } (s.put t (.d (.bool want))) (.ops all r :: k) Q) ∧
    (b = !want → (putR cf.n o.dst (s.put t (.d (.bool (!want)))) (.tup [])).run (fun s' => run P cf (.ops all r :: k) Q s') False)
  | some (_, .tup []) => (putR cf.n o.dst s (.tup [])).run (fun s' => run P cf (.ops all r :: k) Q s') False
  | _ => False
def cnd (v : AV) (a b : Code) (k : List It) (Q : Exit → St → Prop) (s : St) : Prop :=
  match v with
  | .d (.bool t) => (t = true → run P cf (.code a :: k) Q s) ∧ (t = false → run P cf (.code b :: k) Q s)
  | _ => False
def goK (o : Option (List It)) (i : Nat) (Q : Exit → St → Prop) (s : St) : Prop :=
  match o with
  | some k => run P cf k Q s
  | none => Q (.exit i) s

variable {P cf}
variable (Q : Exit → St → Prop) (s : St) (k : List It) (o : Oper) (x : Operand) (a b : Code) (i : Nat)

theorem run_nil : run P cf [] Q s = Q .normal s := by rw [run]
theorem run_blk : run P cf (.blk i :: k) Q s = run P cf k Q s := by rw [run]
theorem run_ops_nil (all : Array Oper) : run P cf (.ops all [] :: k) Q s = run P cf k Q s := by rw [run]
theorem run_ops (all : Array Oper) (d : Option Nat) (op : Op) (t : Nat) (p : String) (e : Array Edge) (r : List Oper) :
    run P cf (.ops all ({ dst := d, op := op, type := t, pos := p, after := e, guard := none } :: r) :: k) Q s =
      stp P cf (opR P.ti cf.n op d s) { dst := d, op := op, type := t, pos := p, after := e, guard := none } s (.ops all r :: k) Q := by rw [run]; rfl
theorem run_ops_g (all : Array Oper) (d : Option Nat) (op : Op) (t : Nat) (p : String) (e : Array Edge) (j : Nat) (want : Bool) (r : List Oper) :
    run P cf (.ops all ({ dst := d, op := op, type := t, pos := p, after := e, guard := some (j, want) } :: r) :: k) Q s =
      gd P cf (guardV all j s) want all { dst := d, op := op, type := t, pos := p, after := e, guard := some (j, want) } r s k Q := by rw [run]; rfl
theorem run_skip : run P cf (.code .skip :: k) Q s = run P cf k Q s := by rw [run]
theorem run_region (ops : List Oper) : run P cf (.code (.region i ops.toArray false) :: k) Q s = run P cf (.ops ops.toArray ops :: k) Q s := by rw [run]
theorem run_draw (ops : Array Oper) : run P cf (.code (.region i ops true) :: k) Q s = ACk P cf (.region i ops true) s k Q := by rw [run]
theorem run_seq : run P cf (.code (.seq a b) :: k) Q s = run P cf (.code a :: .code b :: k) Q s := by rw [run]
theorem run_cond : run P cf (.code (.cond x a b) :: k) Q s = cnd P cf (ev s x) a b k Q s := by rw [run]; rfl
theorem run_block : run P cf (.code (.block i a) :: k) Q s = run P cf (.code a :: .blk i :: k) Q s := by rw [run]
theorem run_exit : run P cf (.code (.exit i) :: k) Q s = goK P cf (exitK i k) i Q s := by
  rw [run]; unfold goK; split <;> simp_all
theorem run_ret : run P cf (.code .ret :: k) Q s = Q .ret s := by rw [run]
theorem run_loop : run P cf (.code (.loop a) :: k) Q s = ACk P cf (.loop a) s k Q := by rw [run]; all_goals simp

theorem stp_ok (s' : St) : stp P cf (.ok s') o s k Q = run P cf k Q s' := rfl
theorem stp_need (p : Prop) (r : R St) : stp P cf (.need p r) o s k Q = (p ∧ stp P cf r o s k Q) := rfl
theorem stp_no : stp P cf .no o s k Q = AOk P cf o s k Q := rfl
theorem gd_bool (t : Nat) (v want : Bool) (all : Array Oper) (r : List Oper) : gd P cf (some (t, .d (.bool v))) want all o r s k Q =
    ((v = want → stp P cf (opR P.ti cf.n o.op o.dst (s.put t (.d (.bool want)))) { o with guard := none } (s.put t (.d (.bool want))) (.ops all r :: k) Q) ∧
    (v = !want → (putR cf.n o.dst (s.put t (.d (.bool (!want)))) (.tup [])).run (fun s' => run P cf (.ops all r :: k) Q s') False)) := rfl
theorem run_putR_some (t : Nat) (h : t < cf.n) (v : AV) (f : St → Prop) (z : Prop) : (putR cf.n (some t) s v).run f z = f (s.put t v) := by simp [putR, h, R.run]
theorem cnd_bool (t : Bool) : cnd P cf (.d (.bool t)) a b k Q s = ((t = true → run P cf (.code a :: k) Q s) ∧ (t = false → run P cf (.code b :: k) Q s)) := rfl
theorem goK_some (k' : List It) : goK P cf (some k') i Q s = run P cf k' Q s := rfl
theorem goK_none : goK P cf none i Q s = Q (.exit i) s := rfl
def gV (s : St) : Option Oper → Option (Nat × AV)
  | some o => o.dst.map fun t => (t, s.fr t)
  | none => none
theorem guardV_eq (all : List Oper) (j : Nat) : guardV all.toArray j s = gV s all[j]? := by
  simp only [guardV, List.getElem?_toArray]; cases all[j]? <;> rfl
end

section
variable (s : St) (t i : Nat) (v : AV) (ob : Ob) (p q : Name) (oo : Option Ob)
theorem put_fr : (s.put t v).fr i = if i = t then v else s.fr i := rfl
theorem put_hp : (s.put t v).hp = s.hp := rfl
theorem put_used : (s.put t v).used = s.used := rfl
theorem add_fr : (s.add t ob).fr = s.fr := rfl
theorem add_hp : (s.add t ob).hp q = if q = [t] then some ob else s.hp q := rfl
theorem add_used : (s.add t ob).used = t :: s.used := rfl
theorem set_fr : (s.set p oo).fr = s.fr := rfl
theorem set_hp : (s.set p oo).hp q = if q = p then oo else s.hp q := rfl
theorem set_used : (s.set p oo).used = s.used := rfl

def lkA {α β : Type} [DecidableEq α] (z : β) : List (α × β) → α → β
  | [], _ => z
  | q :: r, i => if i = q.1 then q.2 else lkA z r i
/-- A state, written out. -/
def mk (fr : List (Nat × AV)) (hp : List (Name × Ob)) (used : List Nat) : St :=
  { fr := lkA .un fr, hp := lkA none (hp.map fun q => (q.1, some q.2)), used := used }
theorem mk_fr (fr hp used) : (mk fr hp used).fr i = lkA .un fr i := rfl
theorem mk_hp (fr hp used) : (mk fr hp used).hp p = lkA none (hp.map fun q => (q.1, some q.2)) p := rfl
theorem mk_used (fr hp used) : (mk fr hp used).used = used := rfl
theorem lkA_nil {α β : Type} [DecidableEq α] (z : β) (i : α) : lkA z [] i = z := rfl
theorem lkA_cons {α β : Type} [DecidableEq α] (z : β) (q : α × β) (r) (i : α) : lkA z (q :: r) i = if i = q.1 then q.2 else lkA z r i := rfl
end
end Go.Ab
