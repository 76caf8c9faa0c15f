/-
  The answer's nodes that may be.
-/
import Derived.Test.YtjoneaifakonjaaDoorV4
set_option linter.all false
namespace Go.Proofs.YtjoneaifakonjaaDoor
open Go.Ab
theorem kids_take {all : Int} {l : List Int} {i : Nat} (h : i < l.length) (ha : (l.take i).any (rightK all) = false) (hp : (decide (l[i] < 0) || decide (all ≤ l[i])) = false) : (l.take (i + 1)).any (rightK all) = false := any_take h ha hp
theorem flds_get' {l : List Fld} {i : Nat} (h : i < l.length) : (l.map fldD).getD i .nilp = .agg [.str (fnm l i), i64 (l.getD i ([], 0)).2] := by simp [h, fnm, fldD]
theorem right_bad1 : ∀ a1 a2 d6 d9 d10 d7 d8 k11 na nb len l30 nm kk x : Bool, (((((a1 || a2) || !(d6 || d9 || d10) && k11 && na) || !(d6 || d9 || d10) && nb) || !(d7 || d8) && len) || l30) = true →
    (!(a1 || a2) && !(!(d6 || d9 || d10) && (nb || k11 && na)) && x && !(!(d7 || d8) && len || !(nm && !l30)) && kk) = true → False := by decide
theorem right_ok1 : ∀ a1 a2 d6 d9 d10 d7 d8 k11 na nb len l30 x : Bool, (((((a1 || a2) || !(d6 || d9 || d10) && k11 && na) || !(d6 || d9 || d10) && nb) || !(d7 || d8) && len) || l30) = false →
    (!(a1 || a2) && !(!(d6 || d9 || d10) && (nb || k11 && na)) && x && !(!(d7 || d8) && len || !(true && !l30))) = x := by decide
end Go.Proofs.YtjoneaifakonjaaDoor
