/-
  The rows' frame at this seat: what came in reads behind the call as it did.
-/
import Derived.Test.YtmplpdjddjiioaaRows
import Derived.Test.YtmplpdjddjiioaaC6
import Derived.Test.YtmplpdjddjiioaaG8
import Derived.ProofKit
import Derived.JoinedOf
import Derived.ChangeMaps5
set_option linter.all false
namespace Go.Proofs.Ytmplpdjddjiioaa
open Go.Ab
open Go.ChangeShapes Go.WideShapes Go.ChangeAt Go.RowKit
theorem Try.own : ownKnob Try.prog.godebug = none := by kernel_rfl
theorem Try.laidOut : laidOutB Try.prog = true := by kernel_rfl
theorem ext_trod {H : Type} {enc : TypeId × Value → H} {t : TypeId} (hr : Try.prog.readableRec t = true) (hrow : t < Try.prog.types.size) {W W' : World} {v : Value} {d : DataW H} {ps : List MemPlace}
    (h : DataW.Trod enc Try.prog W 0 (fun _ => true) true t v d ps) (he : Ext W W') (hlt : ∀ x ∈ ps, x.block < W.heap.size) :
    DataW.Trod enc Try.prog W' 0 (fun b => decide (b < W.heap.size)) true t v d ps :=
  WideElems.Trod_stays Try.laidOut hr hrow h (fun x hx => by
    have h1 := he.old x.block (hlt x hx)
    cases x with
    | cell b off => show W'.cell? _ = W.cell? _; unfold World.cell?; rw [show W'.heap[b]? = W.heap[b]? from h1]
    | map b => exact h1) (fun x hx => by simpa using hlt x hx)
end Go.Proofs.Ytmplpdjddjiioaa
