/-
  The rows' frame at this seat: the witness; what came in reads behind the call as it did.
-/
import Derived.Test.YtjoneaifakonjaaDoorRows
import Derived.Test.YtjoneaifakonjaaDoorTie
import Derived.Test.YtjoneaifakonjaaDoorC6
import Derived.Test.YtjoneaifakonjaaDoorG8
import Derived.ProofKit
import Derived.JoinedOf
import Derived.ChangeMaps5
import Derived.LaidLaws
import Derived.LaidHandle
import Derived.Stop.Joined
import Derived.Lay
import Derived.SevenTiedAt
set_option linter.all false
namespace Go.Proofs.YtjoneaifakonjaaDoor
open Go.Ab
open Go.ChangeShapes Go.WideShapes Go.ChangeAt Go.RowKit

theorem Tryd.own : ownKnob Tryd.prog.godebug = none := by kernel_rfl
/-- What each row lists. -/
def laidL : List (String × DataW Unit) := [("math/bits.deBruijn32tab", Rows.laid_math_bits_deBruijn32tab), ("math/bits.deBruijn64tab", Rows.laid_math_bits_deBruijn64tab), ("internal/strconv.uint64pow10", Rows.laid_internal_strconv_uint64pow10)]
noncomputable def laidWorld (os : Os) : World := World.laidAll Tryd.prog os laidL
theorem laidWorld_met (os : Os) (args : Array Value) : laidMetH Tryd.prog laidL ((laidWorld os).forCall (fun _ _ => 0) ⟨#[], args, []⟩).memory :=
  laidMetH_of_parts (laidMet_laidAll args (by kernel_rfl) (by kernel_rfl)) (by kernel_rfl)
theorem Tryd.laidOut : laidOutB Tryd.prog = true := by kernel_rfl
theorem ext_trod {H : Type} {enc : TypeId × Value → H} {t : TypeId} (hr : Tryd.prog.readableRec t = true) (hrow : t < Tryd.prog.types.size) {W W' : World} {v : Value} {d : DataW H} {ps : List MemPlace}
    (h : DataW.Trod enc Tryd.prog W 0 (fun _ => true) true t v d ps) (he : Ext W W') (hlt : ∀ x ∈ ps, x.block < W.heap.size) :
    DataW.Trod enc Tryd.prog W' 0 (fun b => decide (b < W.heap.size)) true t v d ps :=
  WideElems.Trod_stays Tryd.laidOut hr hrow h (fun x hx => by
    have h1 := he.old x.block (hlt x hx)
    cases x with
    | cell b off => show W'.cell? _ = W.cell? _; unfold World.cell?; rw [show W'.heap[b]? = W.heap[b]? from h1]
    | map b => exact h1) (fun x hx => by simpa using hlt x hx)
end Go.Proofs.YtjoneaifakonjaaDoor
