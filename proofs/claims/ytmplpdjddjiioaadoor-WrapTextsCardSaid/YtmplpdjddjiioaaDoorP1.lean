/-
  The rows' frame at this seat: the tables out of the row's condition; the witness.
-/
import Derived.Test.YtmplpdjddjiioaaDoorRows
import Derived.Test.YtmplpdjddjiioaaDoorTie
import Derived.Test.YtmplpdjddjiioaaDoorC6
import Derived.Test.YtmplpdjddjiioaaDoorS1
import Derived.ProofKit
import Derived.JoinedOf
import Derived.ChangeMaps5
import Derived.LaidLaws
import Derived.LaidHandle
import Derived.Stop.Joined
import Derived.Lib.LaidTab
import Derived.Lay
import Derived.SevenTiedAt
set_option linter.all false
namespace Go.Proofs.YtmplpdjddjiioaaDoor
open Go.Ab
open Go.ChangeShapes Go.WideShapes Go.ChangeAt Go.RowKit

theorem Tryd.own : ownKnob Tryd.prog.godebug = none := by kernel_rfl
/-- What each row lists. -/
def laidL : List (String × DataW Unit) := [("math/bits.deBruijn32tab", Rows.laid_math_bits_deBruijn32tab), ("math/bits.deBruijn64tab", Rows.laid_math_bits_deBruijn64tab), ("internal/strconv.uint64pow10", Rows.laid_internal_strconv_uint64pow10)]
theorem laidMet_tail {P : Program} {x : String × DataW Unit} {r : List (String × DataW Unit)} {W : World} (h : laidMet P (x :: r) W) : laidMet P r W := by
  obtain ⟨ps, ⟨g, t, cs, fuel, p, q, h1, h2, h3, h4, h5, rfl⟩, hnd, hall⟩ := h
  exact ⟨q, h5, (List.nodup_append.1 hnd).2.1, fun b off hb => hall b off (List.mem_append_right _ hb)⟩
theorem gTType : (Tryd.prog.globals[0]?).map (·.type) = some 107 := by kernel_rfl
theorem tab_of_laid {W : World} (h : laidMetH Tryd.prog laidL W) : ∃ t fz, ∀ q ∈ GT t fz, W.heap[q.1]? = some q.2 := by
  have h1 : laidMet Tryd.prog laidL W := h
  have h2 := Lib.tabIs_of_head (k := .u64) (zs := Lib.pow10Tab) (show Tryd.prog.globalNamed "internal/strconv.uint64pow10" = some 0 by kernel_rfl) gTType (show Tryd.prog.underlying 107 = some (.array 20 53) by kernel_rfl) (show Tryd.prog.underlying 53 = some (.int .u64) by kernel_rfl) (by kernel_rfl) (by kernel_rfl) (laidMet_tail (laidMet_tail h1))
  unfold Lib.TabIs World.var? at h2
  rw [show Tryd.prog.globalNamed "internal/strconv.uint64pow10" = some 0 by kernel_rfl] at h2
  simp only [Option.bind_some] at h2
  split at h2
  · rename_i cs t fz hh
    simp only [Option.some.injEq] at h2
    subst h2
    refine ⟨t, fz, fun q hq => ?_⟩
    obtain rfl := List.mem_singleton.1 hq
    exact hh
  · cases h2
theorem inR_wf {n : Int} (h : (Lit.int .i64 n).wf = true) : inR n := by
  simp only [Lit.wf, Bool.and_eq_true, decide_eq_true_eq] at h
  have h1 : IntKind.i64.min = -9223372036854775808 := by decide
  have h2 : IntKind.i64.max = 9223372036854775807 := by decide
  rw [h1, h2] at h
  exact ⟨h.1, h.2⟩
noncomputable def laidWorld (os : Os) : World := World.laidAll Tryd.prog os laidL
theorem laidWorld_met (os : Os) (args : Array Value) : laidMetH Tryd.prog laidL ((laidWorld os).forCall (fun _ _ => 0) ⟨#[], args, []⟩).memory :=
  laidMetH_of_parts (laidMet_laidAll args (by kernel_rfl) (by kernel_rfl)) (by kernel_rfl)
end Go.Proofs.YtmplpdjddjiioaaDoor
