/-
  Pairs sorted by their first numbers, by the library.
-/
import Derived.Shelf.SlSortCmp.NoneTotal
import Derived.Test.YtmplpdjddjiioaaI4
import Derived.Test.YtmplpdjddjiioaaL1
import Derived.Test.YtmplpdjddjiioaaXB
set_option linter.all false
namespace Go.Proofs.Ytmplpdjddjiioaa
open Go.Ab Go.Sort Go.Shelf Go.RowKit Go.Lib Go.Proofs
abbrev VarS := { q : Int × Int // 0 ≤ q.1 ∧ q.1 < 1000 }
instance : Inhabited VarS := ⟨⟨(0, 0), by decide, by decide⟩⟩
def encV (x : VarS) : List Value := [.int .i64 x.1.1, .int .i64 x.1.2]
def cmpV (x y : VarS) : Int := x.1.1 - y.1.1
theorem cmpV_lt (x y : VarS) : ltOf cmpV x y = decide (x.1.1 < y.1.1) := by
  unfold ltOf cmpV
  exact decide_eq_decide.2 (by omega)
theorem cmpV_swo : SWO (ltOf cmpV) where
  irrefl x := by rw [cmpV_lt]; simp
  trans x y z h1 h2 := by rw [cmpV_lt] at *; simp at *; omega
  ntrans x y z h1 h2 := by rw [cmpV_lt] at *; simp at *; omega
set_option maxHeartbeats 1000000 in
theorem clo29 (x y : VarS) (W : World) : Calls Try.prog 29 #[.agg #[.int .i64 x.1.1, .int .i64 x.1.2], .agg #[.int .i64 y.1.1, .int .i64 y.1.2]] W fun e w' => e = .returned (.int .i64 (cmpV x y)) ∧ ∃ q os', w' = grow (W.drewN q) os' := by
  have hw : IntKind.i64.wrap (x.1.1 - y.1.1) = cmpV x y := by
    have := x.2; have := y.2
    exact w64_in ⟨by omega, by omega⟩
  generalize cmpV x y = r at hw ⊢
  go_enter Try.func29, Try.ntmps29
  go_wp2
  go_ret
  exact ⟨rfl, 0, _, by rw [alloc_eq_grow, alloc_eq_grow, grow_grow]; rfl⟩
theorem cmpLays29 (blk off size : Nat) (w : World) : CmpLays Try.prog 29 #[] encV 2 cmpV blk off size w := fun _ _ _ _ x y => clo29 x y _
def encVD (x : VarS) : List D := [i64 x.1.1, i64 x.1.2]
theorem enter29 : ∀ args w, (callFunc 29 args).run Try.prog w = .ok (.enter 29 args) w := enters_of Try.func29 (by kernel_rfl) rfl
theorem enter28 : ∀ args w, (callFunc 28 args).run Try.prog w = .ok (.enter 28 args) w := fun args w => enter_run Try.func28 rfl (by decide +kernel) args w
theorem f28_ok {G} (a : Nat) (l : List (Int × Int)) (hl : ∀ q ∈ l, 0 ≤ q.1 ∧ q.1 < 1000) (hn : l.length ≤ 1000000) : HCall Try.prog G 28 [.vw [a] 0 l.length, .clo 29 []] [([a], .arr (some 2) (l.map spotD))] [a] (fun r hp' => r = .tup [] ∧ ∃ l' : List (Int × Int), l'.Perm l ∧ l'.Pairwise (fun x y => x.1 ≤ y.1) ∧ hp' = [([a], .arr (some 2) (l'.map spotD))]) := by
  obtain ⟨lv, rfl⟩ : ∃ lv : List VarS, l = lv.map (·.1) := ⟨l.pmap (fun q h => (⟨q, h⟩ : VarS)) hl, by rw [List.map_pmap]; simp⟩
  have hb := sort_bridge (P := Try.prog) (G := G) (f := 28) (g := 29) (k := 2) (by decide) encV encVD (ltOf cmpV) (fun _ => rfl) (fun _ => rfl) enter28
    (fun blk off cap d w hH hblk hsz => AnyQ.slices_SortFunc Try.sortUse 2 Try.isAgg47 Try.sizeOf47 encV (fun _ => rfl) (fun x v hv => by simp [encV] at hv; rcases hv with rfl | rfl <;> rfl) cmpV cmpV_swo 29 #[] blk off cap d w enter29 (cmpLays29 blk off d.size w) hH hblk hsz)
    (fun p cap w => AnyF.slices_SortFunc_none Try.sortUse p cap _ w) a lv (by simp at hn; omega)
  have e : ∀ m : List VarS, (m.map (·.1)).map spotD = m.map fun x => .agg (encVD x) := fun m => by simp [spotD, encVD, Function.comp_def]
  rw [e, List.length_map]
  refine hb.mono ?_
  rintro r hp' ⟨rfl, l', hp, hs, rfl⟩
  refine ⟨rfl, l'.map (·.1), hp.map _, List.pairwise_map.2 (hs.imp ?_), by rw [e]⟩
  intro x y h
  rw [cmpV_lt] at h
  simp at h
  omega
end Go.Proofs.Ytmplpdjddjiioaa
