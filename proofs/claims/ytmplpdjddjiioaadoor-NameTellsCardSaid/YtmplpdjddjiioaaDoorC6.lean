/-
  The generic layer, part 23: the engine behind a veil: what evaluates is a variable with rules.
-/
import Derived.Test.YtmplpdjddjiioaaDoorC4
namespace Go.Ab

/-- The engine's words, and how each steps. -/
structure Eng (P : Program) (cf : Cf) (Q : Exit → St → Prop) where
  run : List It → St → Prop
  stp : R St → Oper → St → List It → Prop
  gd : Option (Nat × AV) → Bool → Array Oper → Oper → List Oper → St → List It → Prop
  cnd : AV → Code → Code → List It → St → Prop
  xk : Nat → List It → St → Prop
  skp : Option Nat → Array Oper → List Oper → List It → St → Prop
  run_eq : ∀ k s, run k s = Ab.run P cf k Q s
  stp_eq : ∀ x o s k, stp x o s k = Ab.stp P cf x o s k Q
  gd_eq : ∀ v w all o r s k, gd v w all o r s k = Ab.gd P cf v w all o r s k Q
  cnd_eq : ∀ v a b k s, cnd v a b k s = Ab.cnd P cf v a b k Q s
  xk_eq' : ∀ i k s, xk i k s = Ab.xk P cf i k Q s
  skp_eq : ∀ d all r k s, skp d all r k s = Ab.skp P cf d all r k Q s
theorem eng_ex (P : Program) (cf : Cf) (Q : Exit → St → Prop) : Nonempty (Eng P cf Q) :=
  ⟨⟨fun k s => run P cf k Q s, fun x o s k => stp P cf x o s k Q, fun v w all o r s k => gd P cf v w all o r s k Q, fun v a b k s => cnd P cf v a b k Q s, fun i k s => xk P cf i k Q s, fun d all r k s => skp P cf d all r k Q s,
    fun _ _ => rfl, fun _ _ _ _ => rfl, fun _ _ _ _ _ _ _ => rfl, fun _ _ _ _ _ => rfl, fun _ _ _ => rfl, fun _ _ _ _ _ => rfl⟩⟩
section
variable {P : Program} {cf : Cf} {Q : Exit → St → Prop} (E : Eng P cf Q) (s : St) (k : List It) (o : Oper) (a b : Code) (t : Nat) (all : Array Oper) (r : List Oper)
theorem e_nil : E.run [] s = Q .normal s := by rw [E.run_eq, run_nil]
theorem e_blk (i : Nat) : E.run (.blk i :: k) s = E.run k s := by rw [E.run_eq, E.run_eq, run_blk]
theorem e_ops_nil : E.run (.ops all [] :: k) s = E.run k s := by rw [E.run_eq, E.run_eq, run_ops_nil]
theorem e_ops (d : Option Nat) (op : Op) (ty : Nat) (p : String) (e : Array Edge) :
    E.run (.ops all ({ dst := d, op := op, type := ty, pos := p, after := e, guard := none } :: r) :: k) s =
      E.stp (opR P.ti cf.n op d s) { dst := d, op := op, type := ty, pos := p, after := e, guard := none } s (.ops all r :: k) := by rw [E.run_eq, E.stp_eq, run_ops]
theorem e_ops_g (d : Option Nat) (op : Op) (ty : Nat) (p : String) (e : Array Edge) (j : Nat) (want : Bool) :
    E.run (.ops all ({ dst := d, op := op, type := ty, pos := p, after := e, guard := some (j, want) } :: r) :: k) s =
      E.gd (guardV all j s) want all { dst := d, op := op, type := ty, pos := p, after := e, guard := some (j, want) } r s k := by rw [E.run_eq, E.gd_eq, run_ops_g]
theorem e_skip : E.run (.code .skip :: k) s = E.run k s := by rw [E.run_eq, E.run_eq, run_skip]
theorem e_region (i : Nat) (ops : List Oper) : E.run (.code (.region i ops.toArray false) :: k) s = E.run (.ops ops.toArray ops :: k) s := by rw [E.run_eq, E.run_eq, run_region]
theorem e_seq : E.run (.code (.seq a b) :: k) s = E.run (.code a :: .code b :: k) s := by rw [E.run_eq, E.run_eq, run_seq]
theorem e_cond (x : Operand) : E.run (.code (.cond x a b) :: k) s = E.cnd (ev s x) a b k s := by rw [E.run_eq, E.cnd_eq, run_cond]
theorem e_block (i : Nat) : E.run (.code (.block i a) :: k) s = E.run (.code a :: .blk i :: k) s := by rw [E.run_eq, E.run_eq, run_block]
theorem e_exit (i : Nat) : E.run (.code (.exit i) :: k) s = E.xk i k s := by rw [E.run_eq, E.xk_eq', run_exit_x]
theorem e_ret : E.run (.code .ret :: k) s = Q .ret s := by rw [E.run_eq, run_ret]
theorem e_stp_ok (s' : St) : E.stp (.ok s') o s k = E.run k s' := by rw [E.run_eq, E.stp_eq, stp_ok]
theorem e_stp_need (p : Prop) (x : R St) : E.stp (.need p x) o s k = (p ∧ E.stp x o s k) := by rw [E.stp_eq, E.stp_eq, stp_need]
theorem e_cnd_true : E.cnd (.d (.bool true)) a b k s = E.run (.code a :: k) s := by rw [E.cnd_eq, E.run_eq, cnd_true]
theorem e_cnd_false : E.cnd (.d (.bool false)) a b k s = E.run (.code b :: k) s := by rw [E.cnd_eq, E.run_eq, cnd_false]
theorem e_gd_tt : E.gd (some (t, .d (.bool true))) true all o r s k = E.stp (opR P.ti cf.n o.op o.dst (s.put t (.d (.bool true)))) { o with guard := none } (s.put t (.d (.bool true))) (.ops all r :: k) := by rw [E.gd_eq, E.stp_eq, gd_tt]
theorem e_gd_ff : E.gd (some (t, .d (.bool false))) false all o r s k = E.stp (opR P.ti cf.n o.op o.dst (s.put t (.d (.bool false)))) { o with guard := none } (s.put t (.d (.bool false))) (.ops all r :: k) := by rw [E.gd_eq, E.stp_eq, gd_ff]
theorem e_gd_tf : E.gd (some (t, .d (.bool true))) false all o r s k = E.skp o.dst all r k (s.put t (.d (.bool true))) := by rw [E.gd_eq, E.skp_eq, gd_tf]
theorem e_gd_ft : E.gd (some (t, .d (.bool false))) true all o r s k = E.skp o.dst all r k (s.put t (.d (.bool false))) := by rw [E.gd_eq, E.skp_eq, gd_ft]
theorem e_gd_un (want : Bool) : E.gd (some (t, .tup [])) want all o r s k = E.skp o.dst all r k s := by rw [E.gd_eq, E.skp_eq, gd_un]
theorem e_skp_some (t : Nat) (h : t < cf.n) : E.skp (some t) all r k s = E.run (.ops all r :: k) (s.put t (.tup [])) := by rw [E.skp_eq, E.run_eq, skp_some t h]
theorem e_skp_none : E.skp none all r k s = E.run (.ops all r :: k) s := by rw [E.skp_eq, E.run_eq, skp_none]
theorem e_xk_nil (i : Nat) : E.xk i [] s = Q (.exit i) s := by rw [E.xk_eq', xk_nil]
theorem e_xk_code (i : Nat) (c : Code) : E.xk i (.code c :: k) s = E.xk i k s := by rw [E.xk_eq', E.xk_eq', xk_code]
theorem e_xk_ops (i : Nat) : E.xk i (.ops all r :: k) s = E.xk i k s := by rw [E.xk_eq', E.xk_eq', xk_ops]
theorem e_xk_eq (i : Nat) : E.xk i (.blk i :: k) s = E.run k s := by rw [E.xk_eq', E.run_eq, xk_eq]
theorem e_xk_ne (i j : Nat) (h : (j == i) = false) : E.xk i (.blk j :: k) s = E.xk i k s := by rw [E.xk_eq', E.xk_eq', xk_ne i j h]
variable {s k o a b all r}
@[congr] theorem e_run_cg {s' : St} (h : s = s') : E.run k s = E.run k s' := by rw [h]
@[congr] theorem e_xk_cg {s' : St} {i : Nat} (h : s = s') : E.xk i k s = E.xk i k s' := by rw [h]
@[congr] theorem e_stp_cg {x y : R St} (h : x = y) : E.stp x o s k = E.stp y o s k := by rw [h]
@[congr] theorem e_gd_cg {x y : Option (Nat × AV)} {want : Bool} (h : x = y) : E.gd x want all o r s k = E.gd y want all o r s k := by rw [h]
@[congr] theorem e_cnd_cg {x y : AV} (h : x = y) : E.cnd x a b k s = E.cnd y a b k s := by rw [h]
@[congr] theorem e_skp_cg {s' : St} {d : Option Nat} (h : s = s') : E.skp d all r k s = E.skp d all r k s' := by rw [h]
end
attribute [go_sem] e_nil e_blk e_ops_nil e_ops e_ops_g e_skip e_region e_seq e_cond e_block e_exit e_ret e_stp_ok e_stp_need e_cnd_true e_cnd_false e_gd_tt e_gd_ff e_gd_tf e_gd_ft e_gd_un e_skp_some e_skp_none e_xk_nil e_xk_code e_xk_ops e_xk_eq e_xk_ne
section
variable {P : Program} {cf : Cf} {Q : Exit → St → Prop} (E : Eng P cf Q) {s : St} {k : List It} {o : Oper} {a b : Code} {t : Nat} {all : Array Oper} {r : List Oper}
/-- Code that is left to a rule of its own. -/
def CodeE (_E : Eng P cf Q) (c : Code) (s : St) (k : List It) : Prop := ACk P cf c s k Q
theorem e_loop : E.run (.code (.loop a) :: k) s = CodeE E (.loop a) s k := by rw [E.run_eq, run_loop]; rfl
theorem e_draw (i : Nat) (ops : List Oper) : E.run (.code (.region i ops.toArray true) :: k) s = CodeE E (.region i ops.toArray true) s k := by rw [E.run_eq, run_draw]; rfl
theorem e_stp_no : E.stp .no o s k = AOk P cf o s k Q := by rw [E.stp_eq, stp_no]
/-- A branch that hangs on what is not known. -/
theorem e_if {c : Bool} (h1 : c = true → E.run (.code a :: k) s) (h2 : c = false → E.run (.code b :: k) s) : E.cnd (.d (.bool c)) a b k s := by
  rw [E.cnd_eq]
  exact cnd_bsplit (fun h => by rw [← E.run_eq]; exact h1 h) (fun h => by rw [← E.run_eq]; exact h2 h)
theorem e_ifd {p : Prop} [Decidable p] (h1 : p → E.run (.code a :: k) s) (h2 : ¬ p → E.run (.code b :: k) s) : E.cnd (.d (.bool (decide p))) a b k s := by
  rw [E.cnd_eq]
  exact cnd_split (fun h => by rw [← E.run_eq]; exact h1 h) (fun h => by rw [← E.run_eq]; exact h2 h)
theorem e_gif {c : Bool} {want : Bool}
    (h1 : c = true → E.gd (some (t, .d (.bool true))) want all o r (s.put t (.d (.bool true))) k) (h2 : c = false → E.gd (some (t, .d (.bool false))) want all o r (s.put t (.d (.bool false))) k) : E.gd (some (t, .d (.bool c))) want all o r s k := by
  rw [E.gd_eq]
  exact gd_bsplit (fun h => by rw [← E.gd_eq]; exact h1 h) (fun h => by rw [← E.gd_eq]; exact h2 h)
theorem e_gifd {p : Prop} [Decidable p] {want : Bool}
    (h1 : p → E.gd (some (t, .d (.bool true))) want all o r (s.put t (.d (.bool true))) k) (h2 : ¬ p → E.gd (some (t, .d (.bool false))) want all o r (s.put t (.d (.bool false))) k) : E.gd (some (t, .d (.bool (decide p)))) want all o r s k := by
  rw [E.gd_eq]
  exact gd_split (fun h => by rw [← E.gd_eq]; exact h1 h) (fun h => by rw [← E.gd_eq]; exact h2 h)
end
theorem int_beq (a b : Int) : (a == b) = decide (a = b) := rfl
theorem int_bne (a b : Int) : (a != b) = decide (¬ a = b) := by simp only [bne, int_beq, decide_not]
theorem beq_tf : (true == false) = false := rfl
theorem beq_ft : (false == true) = false := rfl
attribute [go_sem] beq_tf beq_ft e_loop e_draw int_beq int_bne eq_self not_true_eq_false
theorem veil {P : Program} {cf : Cf} {Q : Exit → St → Prop} {k : List It} {s : St} (h : ∀ E : Eng P cf Q, E.run k s) : run P cf k Q s := by
  obtain ⟨E⟩ := eng_ex P cf Q
  rw [← E.run_eq]; exact h E
theorem e_call {P : Program} {cf : Cf} {Q : Exit → St → Prop} (E : Eng P cf Q) {s : St} {k : List It} {dst : Option Nat} {fv : Operand} {args : Array Operand} {at' : Array TypeId} {ty : TypeId} {pos : String} {af : Array Edge}
    {f : FuncId} {caps : List AV} {ds : List D} {Q0 : AV → Prop} (hc : HP P cf.G f ds Q0)
    (hev : ev s fv = .clo f caps) (hargs : args.toList.map (ev s) ++ caps = ds.map .d) (hdst : ∀ t ∈ dst, t < cf.n) (hk : ∀ r, Q0 r → E.run k (s.putO dst r)) :
    E.stp .no { dst := dst, op := .call { callee := .value fv, args := args, argTypes := at' }, type := ty, pos := pos, after := af, guard := none } s k := by
  rw [E.stp_eq, stp_no]
  exact callP_ok hc hev hargs hdst fun r hr => by rw [← E.run_eq]; exact hk r hr
end Go.Ab
