/-
  The generic layer, part 29: the walk of a region that draws, behind a veil; calls in it.
-/
import Derived.Test.YtmplpdjddjiioaaDoorG2
namespace Go.Ab
section
variable (P : Program) (cf : Cf) (ops : Array Oper) (K : St → Prop)
def qst (x : R AV) (o : Oper) (r : List Oper) (s : St) : Prop := qv x (fun y => dOk cf.n o.dst ∧ qrun P cf ops K r (s.putd o.dst y)) (∃ y, QY P cf o s y ∧ dOk cf.n o.dst ∧ qrun P cf ops K r (s.putd o.dst y))
def qgd (v : Option (Nat × AV)) (want : Bool) (o : Oper) (r : List Oper) (s : St) : Prop :=
  match v with
  | some (t, .d (.bool b)) =>
    (b = want → qst P cf ops K (opV P.ti o.op (s.put t (.d (.bool want)))) o r (s.put t (.d (.bool want)))) ∧
    (b = !want → dOk cf.n o.dst ∧ qrun P cf ops K r ((s.put t (.d (.bool (!want)))).putd o.dst (.tup [])))
  | some (_, .tup []) => dOk cf.n o.dst ∧ qrun P cf ops K r (s.putd o.dst (.tup []))
  | _ => False
structure QEng where
  run : List Oper → St → Prop
  stp : R AV → Oper → List Oper → St → Prop
  gd : Option (Nat × AV) → Bool → Oper → List Oper → St → Prop
  pt : Option Nat → AV → List Oper → St → Prop
  run_eq : ∀ r s, run r s = qrun P cf ops K r s
  stp_eq : ∀ x o r s, stp x o r s = qst P cf ops K x o r s
  gd_eq : ∀ v w o r s, gd v w o r s = qgd P cf ops K v w o r s
  pt_eq : ∀ d x r s, pt d x r s = (dOk cf.n d ∧ qrun P cf ops K r (s.putd d x))
theorem qeng_ex : Nonempty (QEng P cf ops K) :=
  ⟨⟨qrun P cf ops K, qst P cf ops K, qgd P cf ops K, fun d x r s => dOk cf.n d ∧ qrun P cf ops K r (s.putd d x), fun _ _ => rfl, fun _ _ _ _ => rfl, fun _ _ _ _ _ => rfl, fun _ _ _ _ => rfl⟩⟩
end
section
variable {P : Program} {cf : Cf} {ops : Array Oper} {K : St → Prop} (E : QEng P cf ops K) (s : St) (o : Oper) (r : List Oper)
theorem q_nil : E.run [] s = K s := by rw [E.run_eq]; rfl
theorem q_ops (d : Option Nat) (op : Op) (ty : Nat) (p : String) (e : Array Edge) :
    E.run ({ dst := d, op := op, type := ty, pos := p, after := e, guard := none } :: r) s = E.stp (opV P.ti op s) { dst := d, op := op, type := ty, pos := p, after := e, guard := none } r s := by rw [E.run_eq, E.stp_eq]; rfl
theorem q_ops_g (d : Option Nat) (op : Op) (ty : Nat) (p : String) (e : Array Edge) (j : Nat) (want : Bool) :
    E.run ({ dst := d, op := op, type := ty, pos := p, after := e, guard := some (j, want) } :: r) s = E.gd (guardV ops j s) want { dst := d, op := op, type := ty, pos := p, after := e, guard := some (j, want) } r s := by rw [E.run_eq, E.gd_eq]; rfl
theorem q_stp_ok (x : AV) : E.stp (.ok x) o r s = E.pt o.dst x r s := by rw [E.stp_eq, E.pt_eq]; rfl
theorem q_stp_need (p : Prop) (x : R AV) : E.stp (.need p x) o r s = (p ∧ E.stp x o r s) := by rw [E.stp_eq, E.stp_eq]; rfl
theorem q_pt_some (t : Nat) (x : AV) (h : t < cf.n) : E.pt (some t) x r s = E.run r (s.put t x) := by rw [E.pt_eq, E.run_eq]; simp [dOk, h, St.putd]
theorem q_pt_none (x : AV) : E.pt none x r s = E.run r s := by rw [E.pt_eq, E.run_eq]; simp [dOk, St.putd]
theorem q_gd_tt (t : Nat) : E.gd (some (t, .d (.bool true))) true o r s = E.stp (opV P.ti o.op (s.put t (.d (.bool true)))) o r (s.put t (.d (.bool true))) := by rw [E.gd_eq, E.stp_eq]; simp [qgd]
theorem q_gd_ff (t : Nat) : E.gd (some (t, .d (.bool false))) false o r s = E.stp (opV P.ti o.op (s.put t (.d (.bool false)))) o r (s.put t (.d (.bool false))) := by rw [E.gd_eq, E.stp_eq]; simp [qgd]
theorem q_gd_tf (t : Nat) : E.gd (some (t, .d (.bool true))) false o r s = E.pt o.dst (.tup []) r (s.put t (.d (.bool true))) := by rw [E.gd_eq, E.pt_eq]; simp [qgd]
theorem q_gd_ft (t : Nat) : E.gd (some (t, .d (.bool false))) true o r s = E.pt o.dst (.tup []) r (s.put t (.d (.bool false))) := by rw [E.gd_eq, E.pt_eq]; simp [qgd]
theorem q_gd_un (t : Nat) (want : Bool) : E.gd (some (t, .tup [])) want o r s = E.pt o.dst (.tup []) r s := by rw [E.gd_eq, E.pt_eq]; rfl
variable {s o r}
@[congr] theorem q_run_cg {s' : St} (h : s = s') : E.run r s = E.run r s' := by rw [h]
@[congr] theorem q_stp_cg {x y : R AV} (h : x = y) : E.stp x o r s = E.stp y o r s := by rw [h]
@[congr] theorem q_gd_cg {x y : Option (Nat × AV)} {want : Bool} (h : x = y) : E.gd x want o r s = E.gd y want o r s := by rw [h]
@[congr] theorem q_pt_cg {s' : St} {d : Option Nat} {x : AV} (h : s = s') : E.pt d x r s = E.pt d x r s' := by rw [h]
attribute [go_sem] q_nil q_ops q_ops_g q_stp_ok q_stp_need q_pt_some q_pt_none q_gd_tt q_gd_ff q_gd_tf q_gd_ft q_gd_un opV
theorem put_put (s : St) (t : Nat) (x y : AV) : (s.put t x).put t y = s.put t y := by
  unfold St.put; congr 1; funext i; simp only [updN]; split <;> rfl
/-- A guard that hangs on what is not known. -/
theorem q_gif {c : Bool} {t : Nat} {want : Bool} (h1 : c = true → E.gd (some (t, .d (.bool true))) want o r (s.put t (.d (.bool true)))) (h2 : c = false → E.gd (some (t, .d (.bool false))) want o r (s.put t (.d (.bool false)))) : E.gd (some (t, .d (.bool c))) want o r s := by
  cases c
  · have := h2 rfl
    cases want
    · rw [q_gd_ff, put_put] at this; rw [q_gd_ff]; exact this
    · rw [q_gd_ft, put_put] at this; rw [q_gd_ft]; exact this
  · have := h1 rfl
    cases want
    · rw [q_gd_tf, put_put] at this; rw [q_gd_tf]; exact this
    · rw [q_gd_tt, put_put] at this; rw [q_gd_tt]; exact this
theorem q_gifd {p : Prop} [Decidable p] {t : Nat} {want : Bool} (h1 : p → E.gd (some (t, .d (.bool true))) want o r (s.put t (.d (.bool true)))) (h2 : ¬ p → E.gd (some (t, .d (.bool false))) want o r (s.put t (.d (.bool false)))) : E.gd (some (t, .d (.bool (decide p)))) want o r s :=
  q_gif E (fun h => h1 (of_decide_eq_true h)) (fun h => h2 (of_decide_eq_false h))

theorem putd_putO (s : St) (d : Option Nat) (x : AV) : s.putd d x = s.putO d x := by cases d <;> rfl
/-- A call in such a region. -/
theorem q_call {dst : Option Nat} {fv : Operand} {args : Array Operand} {at' : Array TypeId} {ty : TypeId} {pos : String} {af : Array Edge} {g : Option (Nat × Bool)}
    {f : FuncId} {caps : List AV} {ds : List D} {x : AV} (hc : HP P cf.G f ds (fun r => r = x))
    (hev : ev s fv = .clo f caps) (hargs : args.toList.map (ev s) ++ caps = ds.map .d) (hdst : ∀ t ∈ dst, t < cf.n) (hk : E.run r (s.putO dst x)) :
    E.stp .no { dst := dst, op := .call { callee := .value fv, args := args, argTypes := at' }, type := ty, pos := pos, after := af, guard := g } r s := by
  rw [E.stp_eq]
  refine ⟨x, fun s' hh hu he B hB ds' β a w hds hs Q' => ?_, ?_, ?_⟩
  · have hm : ∀ y, y = fv ∨ y ∈ args → ev s' y = ev s y := fun y hy => he y (by
      simp only [Op.operands, Call.operands]
      rcases hy with rfl | hy <;> simp_all)
    have hok := callP_ok (cf := cf) (k := []) (Q := fun _ s2 => s2 = s'.putO dst x) (s := s') (dst := dst) (fv := fv) (args := args) (at' := at') (ty := ty) (pos := pos) (af := af) (g := g) hc ((hm fv (.inl rfl)).trans hev)
      (by rw [evs_cg (s := s) (s' := s') fun y hy => hm y (.inr (by simpa using hy))]; exact hargs) hdst (fun r hr => by subst hr; rw [run_nil])
    refine Oper.wpIn_mono ?_ (hok B hB ds' β a w hds hs Q')
    rintro a' w' ⟨hd', s2, β', hrun, hs2⟩
    obtain ⟨_, s3, β3, rfl, hs3⟩ := hrun B hB ds' β' a' w' hd' hs2
    exact ⟨hd', β3, by rw [putd_putO]; exact hs3⟩
  · cases dst with
    | none => trivial
    | some t => exact hdst t rfl
  · rw [← E.run_eq, putd_putO]; exact hk
theorem region_qv {id : Nat} {l : List Oper} {s : St} {k : List It} {Q : Exit → St → Prop} (hm : P.follows .mixedOrders = true) (hq : qB l.toArray = true) (E0 : Eng P cf Q) (h : ∀ E : QEng P cf l.toArray (fun s' => E0.run k s'), E.run l s) :
    CodeE E0 (.region id l.toArray true) s k := by
  refine region_q hm hq ?_
  have e : (fun s' => E0.run k s') = fun s' => run P cf k Q s' := by funext s'; rw [E0.run_eq]
  obtain ⟨E⟩ := qeng_ex P cf l.toArray (fun s' => E0.run k s')
  have := h E
  rw [E.run_eq, e] at this
  exact this
end
end Go.Ab
