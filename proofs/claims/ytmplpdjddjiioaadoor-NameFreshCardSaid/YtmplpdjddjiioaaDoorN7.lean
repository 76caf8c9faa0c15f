/-
  The laws of names at data that came in.
-/
import Derived.Test.YtmplpdjddjiioaaDoorN6
import Derived.Test.YtmplpdjddjiioaaDoorG8
set_option linter.all false
namespace Go.Proofs.YtmplpdjddjiioaaDoor
open Go.Ab
variable {t : TypeId} {fz : Nat × Nat}
theorem strs_of : ∀ {xs : List D}, (∀ x ∈ xs, okW none x ∧ oks [.str] x.cells) → ∃ ls : List (List UInt8), xs = ls.map .str
  | [], _ => ⟨[], rfl⟩
  | x :: r, h => by
    obtain ⟨ls, rfl⟩ := strs_of (xs := r) fun y hy => h y (List.mem_cons_of_mem _ hy)
    obtain ⟨h1, h2⟩ := h x List.mem_cons_self
    cases x with
    | str l => exact ⟨l :: ls, rfl⟩
    | agg cs => simp [okW, D.scal] at h1
    | _ => simp [D.cells, oks, TS.ok] at h2
theorem few_of {d : D} (h : (TS.sl none [.str]).ok d) : ∃ l : List (List UInt8), l.length ≤ 30 ∧ ∀ {G}, HP Tryd.prog G 29 [d] (fun r => r = .d (strs l)) := by
  cases d with
  | nils => exact ⟨[], by simp, f29_nil⟩
  | sl w xs =>
    obtain ⟨rfl, hl, hx⟩ := h
    obtain ⟨ls, rfl⟩ := strs_of hx
    refine ⟨ls.take 30, by simp only [List.length_take]; omega, f29_ok ls ?_⟩
    simpa [maxLen] using hl
  | _ => simp [TS.ok] at h
theorem str_of {d : D} (h : TS.str.ok d) : ∃ l, d = .str l := by
  cases d with
  | str l => exact ⟨l, rfl⟩
  | _ => simp [TS.ok] at h
theorem nameFresh_hp (a b : D) (ha : TS.str.ok a) (hb : (TS.sl none [.str]).ok b) : HP Tryd.prog (GT t fz) 7 [a, b] (fun r => r = .d (.bool true)) := by
  obtain ⟨s, rfl⟩ := str_of ha
  obtain ⟨l, hl, hu⟩ := few_of hb
  exact f7_ok s b l hu hl
theorem nameApart_hp (a b : D) (ha : TS.str.ok a) (hb : (TS.sl none [.str]).ok b) : HP Tryd.prog (GT t fz) 5 [a, b] (fun r => r = .d (.bool true)) := by
  obtain ⟨s, rfl⟩ := str_of ha
  obtain ⟨l, hl, hu⟩ := few_of hb
  exact f5_ok s b l hu hl
end Go.Proofs.YtmplpdjddjiioaaDoor
