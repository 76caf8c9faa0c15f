/-
  The generic layer, part 30: loops, the way out behind the veil as well.
-/
import Derived.Test.YtmplpdjddjiioaaDoorG3
namespace Go.Ab
section
variable {P : Program} {cf : Cf} {Q : Exit → St → Prop} {s : St} {k : List It} {c : Code}
/-- How a round may be left. -/
def lqE (E : Eng P cf Q) (next : St → Prop) (k : List It) (e : Exit) (s : St) : Prop :=
  match e with
  | .normal => next s
  | .exit i => E.xk i k s
  | .ret => Q .ret s
  | _ => False
theorem lqE_eq (E : Eng P cf Q) (next : St → Prop) (k : List It) : lqE E next k = lq P cf next k Q := by
  funext e s
  cases e with
  | exit i => show E.xk i k s = xk P cf i k Q s; rw [E.xk_eq']
  | _ => rfl
theorem lqE_normal (E : Eng P cf Q) (next : St → Prop) : lqE E next k .normal s = next s := rfl
theorem lqE_exit (E : Eng P cf Q) (next : St → Prop) (i : Nat) : lqE E next k (.exit i) s = E.xk i k s := rfl
theorem lqE_ret (E : Eng P cf Q) (next : St → Prop) : lqE E next k .ret s = Q .ret s := rfl
attribute [go_sem] lqE_normal lqE_exit lqE_ret
/-- A loop whose rounds carry plain values alone. -/
theorem loopP_e (E : Eng P cf Q) {X : Type} (I : X → List (Nat × AV)) (μ : X → Nat) (hU : cf.U = []) (x0 : X) (h0 : frE s (I x0))
    (hr : ∀ x, ∀ E' : Eng P cf (lqE E (fun s' => ∃ y, μ y < μ x ∧ frE s' (I y)) k), E'.run [.code c] (mk (I x) [] [])) : CodeE E (.loop c) s k :=
  loopP_ok I μ hU x0 h0 fun x => by rw [← lqE_eq E]; exact veil (hr x)
/-- A loop whose rounds carry values and objects under their own names. -/
theorem loopO_e (E : Eng P cf Q) {X : Type} (I : X → List (Nat × AV)) (O : X → List (Name × Ob)) (u : List Nat) (μ : X → Nat) (x0 : X) (h0 : LeL cf.U id s (I x0) (O x0) u)
    (hr : ∀ x, ∀ E' : Eng P cf (lqE E (fun s' => ∃ y, μ y < μ x ∧ LeL cf.U id s' (I y) (O y) u) k), E'.run [.code c] (mk (I x) (O x) u)) : CodeE E (.loop c) s k :=
  loopO_ok I O u μ x0 h0 fun x => by rw [← lqE_eq E]; exact veil (hr x)
end
end Go.Ab
