/-
  Whether a name stands there twice; whether a node may be, but for its children. (with the parts that follow it)
-/
import Derived.Test.YtejpnabbmgpmaaaGreatWF
import Derived.Test.YtejpnabbmgpmaaaGreatWD
import Derived.Test.YtejpnabbmgpmaaaGreatWG
import Derived.Test.YtejpnabbmgpmaaaGreatWH
set_option linter.unusedSimpArgs false
namespace Go.Proofs.YtejpnabbmgpmaaaGreat
open Go.Ab
theorem zero4 : zeroD Tryz.prog 4 = some (.bool false) := by kernel_rfl
theorem mlook_set {κ : Type} [DecidableEq κ] (a b : κ) (d : D) : ∀ ms : List (κ × D), mlook (mset ms a d) b = if a = b then some d else mlook ms b
  | [] => rfl
  | q :: r => by
    simp only [mset]
    split
    · rename_i e
      simp only [mlook]
      rw [e]
      split <;> rfl
    · rename_i e
      simp only [mlook, mlook_set a b d r]
      split
      · rename_i e2
        rw [if_neg (fun e3 => e (e2.trans e3.symm))]
      · rfl
def setOf (l : List (List UInt8)) : List (List UInt8 × D) := l.foldl (fun ms u => mset ms u (.bool true)) []
theorem setOf_snoc (l : List (List UInt8)) (u : List UInt8) : setOf (l ++ [u]) = mset (setOf l) u (.bool true) := by simp [setOf]
theorem look_set (l : List (List UInt8)) (u : List UInt8) : (mlook (setOf l) u).getD (.bool false) = .bool (decide (u ∈ l)) := by
  suffices h : ∀ l : List (List UInt8), mlook (setOf l) u = if u ∈ l then some (.bool true) else none by
    rw [h]; split <;> simp_all
  intro l
  induction hl : l.length generalizing l with
  | zero => have : l = [] := List.length_eq_zero_iff.1 hl; subst this; rfl
  | succ n ih =>
    have hne : l ≠ [] := by intro e; rw [e] at hl; simp at hl
    obtain ⟨r, x, rfl⟩ : ∃ r x, l = r ++ [x] := ⟨l.dropLast, l.getLast hne, (List.dropLast_concat_getLast hne).symm⟩
    rw [setOf_snoc, mlook_set, ih r (by simpa using hl)]
    by_cases h1 : x = u
    · subst h1; simp
    · rw [if_neg h1]
      simp [Ne.symm h1]
def twice (l : List (List UInt8)) : Bool := !decide l.Nodup
theorem nd_step {l : List (List UInt8)} {i : Nat} (hi : i < l.length) (h : (l.take i).Nodup) (h2 : l.getD i [] ∉ l.take i) : (l.take (i + 1)).Nodup := by
  have e : l.getD i [] = l[i] := by simp [hi]
  rw [e] at h2
  rw [List.take_succ_eq_append_getElem hi, List.nodup_append]
  exact ⟨h, by simp, fun x hx y hy => by rw [List.mem_singleton.1 hy]; rintro rfl; exact h2 hx⟩
theorem nd_not {l : List (List UInt8)} {i : Nat} (hi : i < l.length) (h2 : l.getD i [] ∈ l.take i) : twice l = true := by
  have e : l.getD i [] = l[i] := by simp [hi]
  rw [e] at h2
  have : ¬ l.Nodup := fun hn => by
    have hs : (l.take (i + 1)).Nodup := hn.sublist (List.take_sublist _ _)
    rw [List.take_succ_eq_append_getElem hi, List.nodup_append] at hs
    exact hs.2.2 _ h2 _ (by simp) rfl
  simp [twice, this]
theorem f160_ok {G} (l : List (List UInt8)) (hl : l.length ≤ 1000000) : HP Tryz.prog G 160 [strs l] (fun r => r = .d (.bool (twice l))) := by
  refine funP_ok Tryz.func160 rfl (by decide +kernel) (by simp [Tryz.ntmps160]) (veil fun E => ?_)
  unfold strs
  simp only [go_sem]
  refine e_makeMap E (by simp) (by simp [mk_used]) ?_
  simp only [go_sem]
  refine loopO_e E (X := { i : Nat // i ≤ l.length ∧ (l.take i).Nodup }) (fun x => [(3, .mp [6]), (7, .d (.sl none (l.map .str))), (8, .d (i64 l.length)), (9, .d (i64 x.1))]) (fun x => [([6], .map (menc D.str (setOf (l.take x.1))))]) [6] (fun x => l.length - x.1) ⟨0, by simp⟩ ?_ ?_
  · simp only [go_sem]
    all_goals rfl
  rintro ⟨i, hi, hn⟩ E'
  simp only [go_sem]
  refine e_ifd E' (fun h1 => ?_) (fun h1 => ?_) <;> simp only [go_sem]
  · have hi' : i < l.length := by omega
    refine ⟨⟨by omega, by omega⟩, ?_⟩
    rw [strs_get hi']
    simp only [go_sem]
    refine e_lookup E' [6] (setOf (l.take i)) (l.getD i []) (.bool false) (by rw [ti256]) (keyStr (by rw [ti9])) zero4 rfl rfl rfl (by simp) ?_
    simp only [go_sem]
    rw [look_set]
    refine e_ifd E' (fun h2 => ?_) (fun h2 => ?_) <;> simp only [go_sem]
    · rw [nd_not hi' h2]
    refine e_mapUpdate E' [6] (setOf (l.take i)) (l.getD i []) (.bool true) (by rw [ti256]) (keyStr (by rw [ti9])) rfl rfl rfl rfl rfl ?_
    simp only [go_sem]
    refine ⟨⟨i + 1, by omega, nd_step hi' hn h2⟩, by show l.length - (i + 1) < _; omega, by rw [w64_in ⟨by omega, by omega⟩]; rfl, ?_⟩
    rw [List.take_succ_eq_append_getElem hi', setOf_snoc]
    simp [hi']
  · have hil : i = l.length := by omega
    subst hil
    rw [List.take_length] at hn
    simp [twice, hn]
structure SaneN (B : Nat) (n : EN) : Prop where
  nm : n.name.length ≤ B
  s : n.s.length ≤ B
  l : n.l.length ≤ 1000000
  f : ∀ f ∈ n.l, f.nm.length ≤ B ∧ f.var.length ≤ B
abbrev BIG : Nat := 9223372036854775807
theorem nil_beq (l : List UInt8) : (l == []) = l.isEmpty := by cases l <;> rfl
theorem f106_ok {G} (n : EN) (h : SaneN BIG n) : HP Tryz.prog G 106 [enD n] (fun r => r = .d (.bool (namedB n))) := by
  generalize hb : namedB n = b
  unfold namedB at hb
  have c1 := f157_ok (G := G) n.name h.nm
  have c2 := f158_ok (G := G) n.name h.nm
  generalize nameB n.name = x at c1 hb
  generalize tagB n.name = y at c2 hb
  unfold enD efD
  refine funP_ok Tryz.func106 rfl (by decide +kernel) (by simp [Tryz.ntmps106]) (veil fun E => ?_)
  simp only [go_sem]
  refine e_ifd E (fun h4 => ?_) (fun h4 => ?_) <;> simp only [go_sem]
  · rw [decide_eq_true h4]
    try simp only [go_sem]
    refine e_call E (c1) rfl rfl (by simp) ?_
    rintro _ rfl
    simp only [go_sem]
    subst hb
    rw [if_pos (by omega)]
  refine e_ifd E (fun h5 => ?_) (fun h5 => ?_) <;> simp only [go_sem]
  · rw [decide_eq_true h5]
    try simp only [go_sem]
    refine e_call E (c1) rfl rfl (by simp) ?_
    rintro _ rfl
    simp only [go_sem]
    subst hb
    rw [if_pos (by omega)]
  refine e_ifd E (fun h7 => ?_) (fun h7 => ?_) <;> simp only [go_sem]
  · rw [decide_eq_true h7]
    try simp only [go_sem]
    refine e_call E (c1) rfl rfl (by simp) ?_
    rintro _ rfl
    simp only [go_sem]
    subst hb
    rw [if_pos (by omega)]
  refine e_ifd E (fun h8 => ?_) (fun h8 => ?_) <;> simp only [go_sem]
  · rw [decide_eq_true h8]
    try simp only [go_sem]
    refine e_call E (c1) rfl rfl (by simp) ?_
    rintro _ rfl
    simp only [go_sem]
    subst hb
    rw [if_pos (by omega)]
  refine e_ifd E (fun h12 => ?_) (fun h12 => ?_) <;> simp only [go_sem]
  · try simp only [go_sem]
    refine e_call E (c1) rfl rfl (by simp) ?_
    rintro _ rfl
    simp only [go_sem]
    subst hb
    rw [if_pos (by omega)]
  refine e_ifd E (fun h13 => ?_) (fun h13 => ?_) <;> simp only [go_sem]
  · refine e_call E (c2) rfl rfl (by simp) ?_
    rintro _ rfl
    simp only [go_sem]
    subst hb
    rw [if_neg (by omega), if_pos h13]
  · subst hb
    rw [if_neg (by omega), if_neg h13, nil_beq]
theorem f159_ok {G} (k : Int) (f : EF) (h1 : f.nm.length ≤ BIG) (h2 : f.var.length ≤ BIG) : HP Tryz.prog G 159 [i64 k, fD f] (fun r => r = .d (.bool (partB k f))) := by
  generalize hb : partB k f = b
  unfold partB at hb
  have c1 := f157_ok (G := G) f.nm h1
  have c2 := f158_ok (G := G) f.nm h1
  have c3 := f157_ok (G := G) f.var h2
  generalize nameB f.nm = x at c1 hb
  generalize tagB f.nm = y at c2 hb
  generalize nameB f.var = z at c3 hb
  unfold fD
  refine funP_ok Tryz.func159 rfl (by decide +kernel) (by simp [Tryz.ntmps159]) (veil fun E => ?_)
  simp only [go_sem]
  refine e_ifd E (fun h => ?_) (fun h => ?_) <;> simp only [go_sem]
  · refine e_call E (c1) rfl rfl (by simp) ?_
    rintro _ rfl
    simp only [go_sem]
    repeat (first
      | (apply e_gm E; (· simp only [go_sem]); (· intro h; (try simp only [Bool.and_eq_true, Bool.not_eq_true', Bool.not_eq_false'] at h); simp only [↓h, go_sem]; rfl); simp only [go_sem])
      | (apply e_gpk E; (· simp only [go_sem]); (· intro h; (try simp only [Bool.and_eq_true, Bool.not_eq_true', Bool.not_eq_false'] at h); simp only [↓h, go_sem]; rfl); (· intro h; (try simp only [Bool.and_eq_true, Bool.not_eq_true', Bool.not_eq_false'] at h); simp only [↓h, go_sem]; rfl); simp only [go_sem])
      | (apply e_gm2 E; (· simp only [go_sem]); (· rfl); (· intro h h'; (try simp only [Bool.and_eq_true, Bool.not_eq_true', Bool.not_eq_false'] at h h'); simp only [↓h, ↓h', go_sem]; rfl); simp only [go_sem])
      | (apply e_gpk2 E; (· simp only [go_sem]); (· rfl); (· intro h h'; (try simp only [Bool.and_eq_true, Bool.not_eq_true', Bool.not_eq_false'] at h h'); simp only [↓h, ↓h', go_sem]; rfl); (· intro h h'; (try simp only [Bool.and_eq_true, Bool.not_eq_true', Bool.not_eq_false'] at h h'); simp only [↓h, ↓h', go_sem]; rfl); simp only [go_sem])
      | (apply e_pk E; (· decide); simp only [go_sem]))
    rw [if_pos h, ← nil_beq] at hb
    rw [hb]
  · refine e_call E (c2) rfl rfl (by simp) ?_
    rintro _ rfl
    simp only [go_sem]
    repeat (first
      | (apply e_gm E; (· simp only [go_sem]); (· intro h; (try simp only [Bool.and_eq_true, Bool.not_eq_true', Bool.not_eq_false'] at h); simp only [↓h, go_sem]; rfl); simp only [go_sem])
      | (apply e_gpk E; (· simp only [go_sem]); (· intro h; (try simp only [Bool.and_eq_true, Bool.not_eq_true', Bool.not_eq_false'] at h); simp only [↓h, go_sem]; rfl); (· intro h; (try simp only [Bool.and_eq_true, Bool.not_eq_true', Bool.not_eq_false'] at h); simp only [↓h, go_sem]; rfl); simp only [go_sem])
      | (apply e_gm2 E; (· simp only [go_sem]); (· rfl); (· intro h h'; (try simp only [Bool.and_eq_true, Bool.not_eq_true', Bool.not_eq_false'] at h h'); simp only [↓h, ↓h', go_sem]; rfl); simp only [go_sem])
      | (apply e_gpk2 E; (· simp only [go_sem]); (· rfl); (· intro h h'; (try simp only [Bool.and_eq_true, Bool.not_eq_true', Bool.not_eq_false'] at h h'); simp only [↓h, ↓h', go_sem]; rfl); (· intro h h'; (try simp only [Bool.and_eq_true, Bool.not_eq_true', Bool.not_eq_false'] at h h'); simp only [↓h, ↓h', go_sem]; rfl); simp only [go_sem])
      | (apply e_pk E; (· decide); simp only [go_sem]))
    (first | (apply e_gmx E; (· simp only [go_sem]); (· intro h hk; (try simp only [Bool.and_eq_true, Bool.not_eq_true', Bool.not_eq_false'] at h); refine e_call E (c3) rfl (by simp only [↓h, go_sem] <;> rfl) (by simp) ?_; rintro _ rfl; exact hk); simp only [go_sem]) | (apply e_gmx2 E; (· simp only [go_sem]); (· rfl); (· intro h h' hk; (try simp only [Bool.and_eq_true, Bool.not_eq_true', Bool.not_eq_false'] at h h'); refine e_call E (c3) rfl (by simp only [↓h, ↓h', go_sem] <;> rfl) (by simp) ?_; rintro _ rfl; exact hk); simp only [go_sem]))
    repeat (first
      | (apply e_gm E; (· simp only [go_sem]); (· intro h; (try simp only [Bool.and_eq_true, Bool.not_eq_true', Bool.not_eq_false'] at h); simp only [↓h, go_sem]; rfl); simp only [go_sem])
      | (apply e_gpk E; (· simp only [go_sem]); (· intro h; (try simp only [Bool.and_eq_true, Bool.not_eq_true', Bool.not_eq_false'] at h); simp only [↓h, go_sem]; rfl); (· intro h; (try simp only [Bool.and_eq_true, Bool.not_eq_true', Bool.not_eq_false'] at h); simp only [↓h, go_sem]; rfl); simp only [go_sem])
      | (apply e_gm2 E; (· simp only [go_sem]); (· rfl); (· intro h h'; (try simp only [Bool.and_eq_true, Bool.not_eq_true', Bool.not_eq_false'] at h h'); simp only [↓h, ↓h', go_sem]; rfl); simp only [go_sem])
      | (apply e_gpk2 E; (· simp only [go_sem]); (· rfl); (· intro h h'; (try simp only [Bool.and_eq_true, Bool.not_eq_true', Bool.not_eq_false'] at h h'); simp only [↓h, ↓h', go_sem]; rfl); (· intro h h'; (try simp only [Bool.and_eq_true, Bool.not_eq_true', Bool.not_eq_false'] at h h'); simp only [↓h, ↓h', go_sem]; rfl); simp only [go_sem])
      | (apply e_pk E; (· decide); simp only [go_sem]))
    rw [if_neg h] at hb
    rw [hb]
theorem f107_ok {G} (n : EN) : HP Tryz.prog G 107 [enD n] (fun r => r = .d (.bool (countedB n))) := by
  generalize hb : countedB n = b
  unfold countedB at hb
  simp only [← nil_beq] at hb
  unfold enD efD
  refine funP_ok Tryz.func107 rfl (by decide +kernel) (by simp [Tryz.ntmps107]) (veil fun E => ?_)
  simp only [go_sem]
  refine e_ifd E (fun h1 => ?_) (fun h1 => ?_) <;> simp only [go_sem]
  · rw [if_pos h1] at hb
    rw [hb]
  rw [if_neg h1] at hb
  refine e_ifd E (fun h2 => ?_) (fun h2 => ?_) <;> simp only [go_sem]
  · rw [if_pos h2] at hb
    repeat (first
      | (apply e_gm E; (· simp only [go_sem]); (· intro h; (try simp only [Bool.and_eq_true, Bool.not_eq_true', Bool.not_eq_false'] at h); simp only [↓h, go_sem]; rfl); simp only [go_sem])
      | (apply e_gpk E; (· simp only [go_sem]); (· intro h; (try simp only [Bool.and_eq_true, Bool.not_eq_true', Bool.not_eq_false'] at h); simp only [↓h, go_sem]; rfl); (· intro h; (try simp only [Bool.and_eq_true, Bool.not_eq_true', Bool.not_eq_false'] at h); simp only [↓h, go_sem]; rfl); simp only [go_sem])
      | (apply e_gm2 E; (· simp only [go_sem]); (· rfl); (· intro h h'; (try simp only [Bool.and_eq_true, Bool.not_eq_true', Bool.not_eq_false'] at h h'); simp only [↓h, ↓h', go_sem]; rfl); simp only [go_sem])
      | (apply e_gpk2 E; (· simp only [go_sem]); (· rfl); (· intro h h'; (try simp only [Bool.and_eq_true, Bool.not_eq_true', Bool.not_eq_false'] at h h'); simp only [↓h, ↓h', go_sem]; rfl); (· intro h h'; (try simp only [Bool.and_eq_true, Bool.not_eq_true', Bool.not_eq_false'] at h h'); simp only [↓h, ↓h', go_sem]; rfl); simp only [go_sem])
      | (apply e_pk E; (· decide); simp only [go_sem]))
    rw [hb]
  rw [if_neg h2] at hb
  refine e_ifd E (fun h3 => ?_) (fun h3 => ?_) <;> simp only [go_sem]
  · rw [if_pos h3] at hb
    repeat (first
      | (apply e_gm E; (· simp only [go_sem]); (· intro h; (try simp only [Bool.and_eq_true, Bool.not_eq_true', Bool.not_eq_false'] at h); simp only [↓h, go_sem]; rfl); simp only [go_sem])
      | (apply e_gpk E; (· simp only [go_sem]); (· intro h; (try simp only [Bool.and_eq_true, Bool.not_eq_true', Bool.not_eq_false'] at h); simp only [↓h, go_sem]; rfl); (· intro h; (try simp only [Bool.and_eq_true, Bool.not_eq_true', Bool.not_eq_false'] at h); simp only [↓h, go_sem]; rfl); simp only [go_sem])
      | (apply e_gm2 E; (· simp only [go_sem]); (· rfl); (· intro h h'; (try simp only [Bool.and_eq_true, Bool.not_eq_true', Bool.not_eq_false'] at h h'); simp only [↓h, ↓h', go_sem]; rfl); simp only [go_sem])
      | (apply e_gpk2 E; (· simp only [go_sem]); (· rfl); (· intro h h'; (try simp only [Bool.and_eq_true, Bool.not_eq_true', Bool.not_eq_false'] at h h'); simp only [↓h, ↓h', go_sem]; rfl); (· intro h h'; (try simp only [Bool.and_eq_true, Bool.not_eq_true', Bool.not_eq_false'] at h h'); simp only [↓h, ↓h', go_sem]; rfl); simp only [go_sem])
      | (apply e_pk E; (· decide); simp only [go_sem]))
    rw [hb]
  rw [if_neg h3] at hb
  refine e_ifd E (fun h4 => ?_) (fun h4 => ?_) <;> simp only [go_sem]
  · rw [if_pos h4] at hb
    repeat (first
      | (apply e_gm E; (· simp only [go_sem]); (· intro h; (try simp only [Bool.and_eq_true, Bool.not_eq_true', Bool.not_eq_false'] at h); simp only [↓h, go_sem]; rfl); simp only [go_sem])
      | (apply e_gpk E; (· simp only [go_sem]); (· intro h; (try simp only [Bool.and_eq_true, Bool.not_eq_true', Bool.not_eq_false'] at h); simp only [↓h, go_sem]; rfl); (· intro h; (try simp only [Bool.and_eq_true, Bool.not_eq_true', Bool.not_eq_false'] at h); simp only [↓h, go_sem]; rfl); simp only [go_sem])
      | (apply e_gm2 E; (· simp only [go_sem]); (· rfl); (· intro h h'; (try simp only [Bool.and_eq_true, Bool.not_eq_true', Bool.not_eq_false'] at h h'); simp only [↓h, ↓h', go_sem]; rfl); simp only [go_sem])
      | (apply e_gpk2 E; (· simp only [go_sem]); (· rfl); (· intro h h'; (try simp only [Bool.and_eq_true, Bool.not_eq_true', Bool.not_eq_false'] at h h'); simp only [↓h, ↓h', go_sem]; rfl); (· intro h h'; (try simp only [Bool.and_eq_true, Bool.not_eq_true', Bool.not_eq_false'] at h h'); simp only [↓h, ↓h', go_sem]; rfl); simp only [go_sem])
      | (apply e_pk E; (· decide); simp only [go_sem]))
    rw [← hb, show decide ((n.s.length : Int) ≤ 200) = decide (n.s.length ≤ 200) from decide_eq_decide.2 (by omega)]
  rw [if_neg h4] at hb
  repeat (first
    | (apply e_gm E; (· simp only [go_sem]); (· intro h; (try simp only [Bool.and_eq_true, Bool.not_eq_true', Bool.not_eq_false'] at h); simp only [↓h, go_sem]; rfl); simp only [go_sem])
    | (apply e_gpk E; (· simp only [go_sem]); (· intro h; (try simp only [Bool.and_eq_true, Bool.not_eq_true', Bool.not_eq_false'] at h); simp only [↓h, go_sem]; rfl); (· intro h; (try simp only [Bool.and_eq_true, Bool.not_eq_true', Bool.not_eq_false'] at h); simp only [↓h, go_sem]; rfl); simp only [go_sem])
    | (apply e_gm2 E; (· simp only [go_sem]); (· rfl); (· intro h h'; (try simp only [Bool.and_eq_true, Bool.not_eq_true', Bool.not_eq_false'] at h h'); simp only [↓h, ↓h', go_sem]; rfl); simp only [go_sem])
    | (apply e_gpk2 E; (· simp only [go_sem]); (· rfl); (· intro h h'; (try simp only [Bool.and_eq_true, Bool.not_eq_true', Bool.not_eq_false'] at h h'); simp only [↓h, ↓h', go_sem]; rfl); (· intro h h'; (try simp only [Bool.and_eq_true, Bool.not_eq_true', Bool.not_eq_false'] at h h'); simp only [↓h, ↓h', go_sem]; rfl); simp only [go_sem])
    | (apply e_pk E; (· decide); simp only [go_sem]))
  rw [hb]
theorem part_take {p : EF → Bool} {l : List EF} {i : Nat} (h : i < l.length) (ha : (l.take i).all p = true) (hb : p l[i] = true) : (l.take (i + 1)).all p = true := by
  rw [List.take_succ_eq_append_getElem h, List.all_append, ha]
  simp [hb]
theorem fdz_at {l : List EF} {i : Nat} (h : i < l.length) : (l.map fD).getD i .nilp = .agg [.str l[i].nm, .str l[i].var, i64 l[i].to] := by simp [h, fD]
theorem len_nil (l : List EF) : decide ((l.length : Int) = 0) = l.isEmpty := by cases l <;> simp <;> omega
theorem f108_ok {G} (n : EN) (h : SaneN BIG n) : HP Tryz.prog G 108 [enD n] (fun r => r = .d (.bool (partedB n))) := by
  generalize hb : partedB n = b
  unfold partedB at hb
  have hl := h.l
  unfold enD efD
  refine funP_ok Tryz.func108 rfl (by decide +kernel) (by simp [Tryz.ntmps108]) (veil fun E => ?_)
  simp only [go_sem]
  refine e_call E (f154_ok n.k) rfl rfl (by simp) ?_
  rintro _ rfl
  simp only [go_sem]
  refine e_if E (fun h1 => ?_) (fun h1 => ?_) <;> simp only [go_sem]
  · rw [if_neg (by simpa using h1), ← len_nil] at hb
    rw [hb]
  rw [if_pos (by simpa using h1)] at hb
  refine c_thaw E 3 98 none rfl (by rw [mk_used]; decide) ?_
  simp only [go_sem]
  refine loopT_e E (X := { i : Nat // i ≤ n.l.length ∧ (n.l.take i).all (partB n.k) = true }) (fun x => [(1, .at [1] 0), (3, .vw [98] 0 x.1), (17, .d (.sl (some 3) (n.l.map fD))), (18, .d (i64 n.l.length)), (19, .d (i64 x.1))])
    (fun x => [([1], .box [.d (i64 n.k), .d (i64 n.a), .d (i64 n.b), .d (i64 n.c), .d (i64 n.n), .d (.str n.name), .d (.str n.s), .d (.sl (some 3) (n.l.map fD)), .d (i64 n.pos)]), ([98], .arr none ((n.l.take x.1).map fun f => .str f.nm))]) [1, 98] (fun x => n.l.length - x.1) ⟨0, by simp⟩ id ?_ ?_
  · simp only [go_sem]
    all_goals rfl
  rintro ⟨i, hi, hall⟩ E0
  refine hideQ E0 fun Q' hQ E' => ?_
  simp only at hi hall ⊢
  simp only [go_sem]
  refine e_ifd E' (fun g1 => ?_) (fun g1 => ?_) <;> simp only [go_sem]
  · have hi' : i < n.l.length := by omega
    refine ⟨⟨by omega, by omega⟩, ?_⟩
    rw [fdz_at hi']
    simp only [go_sem]
    obtain ⟨q1, q2⟩ := h.f _ (List.getElem_mem hi')
    refine e_call E' (f159_ok n.k n.l[i] q1 q2) rfl rfl (by simp) ?_
    rintro _ rfl
    simp only [go_sem]
    refine e_if E' (fun g2 => ?_) (fun g2 => ?_) <;> simp only [go_sem]
    · rw [hQ]
      simp only [go_sem]
      have g2' : partB n.k n.l[i] = false := by simpa using g2
      have : n.l.all (partB n.k) = false := List.all_eq_false.2 ⟨_, List.getElem_mem hi', by rw [g2']; decide⟩
      rw [← hb, this]
      rfl
    · have g2' : partB n.k n.l[i] = true := by simpa using g2
      refine ⟨by omega, ?_⟩
      rw [hQ]
      simp only [go_sem]
      refine ⟨⟨i + 1, by omega, part_take hi' hall g2'⟩, by show n.l.length - (i + 1) < _; omega, tau [([98], [32])], ?_⟩
      rw [w64_in ⟨by omega, by omega⟩]
      rw [show List.take i (List.map (fun f : EF => D.str f.nm) (List.take i n.l)) ++ [.str n.l[i].nm] = (n.l.take (i + 1)).map fun f => .str f.nm by
        rw [List.take_of_length_le (by simp; omega), List.take_succ_eq_append_getElem hi', List.map_append]; rfl]
      simp only [go_sem]
      all_goals rfl
  · rw [hQ]
    have h3 : i = n.l.length := by omega
    subst h3
    rw [List.take_length] at *
    rw [hall, Bool.true_and] at hb
    simp only [go_sem]
    refine e_ifd E (fun k1 => ?_) (fun k1 => ?_) <;> simp only [go_sem]
    · rw [if_pos k1] at hb
      refine e_gifd E (fun k2 => ?_) (fun k2 => ?_) <;> simp only [go_sem]
      · refine e_gifd E (fun k3 => ?_) (fun k3 => ?_) <;> simp only [go_sem]
        · have ht := f160_ok (G := G) (n.l.map (·.nm)) (by rw [List.length_map]; exact hl)
          unfold strs at ht
          rw [List.map_map, show (D.str ∘ fun f : EF => f.nm) = fun f => D.str f.nm from rfl] at ht
          rw [mk_put]
          simp only [go_sem]
          refine e_callB E [([98], none, n.l.map fun f => .str f.nm)] ht (by rintro _ rfl; rfl) (by simp only [go_sem]) rfl (by simp only [go_sem]) (by simp) ?_
          rintro _ rfl
          simp only [go_sem]
          rw [← hb, decide_eq_true (by omega), decide_eq_true (by omega)]
          simp [twice]
        · rw [← hb, decide_eq_false (p := n.l.length ≤ 30) (by omega), Bool.and_false, Bool.false_and]
      · rw [← hb, decide_eq_false (by omega), Bool.false_and, Bool.false_and]
    · rw [if_neg k1] at hb
      refine e_gifd E (fun k2 => ?_) (fun k2 => ?_) <;> simp only [go_sem]
      · refine e_gifd E (fun k3 => ?_) (fun k3 => ?_) <;> simp only [go_sem]
        · have ht := f160_ok (G := G) (n.l.map (·.nm)) (by rw [List.length_map]; exact hl)
          unfold strs at ht
          rw [List.map_map, show (D.str ∘ fun f : EF => f.nm) = fun f => D.str f.nm from rfl] at ht
          rw [mk_put]
          simp only [go_sem]
          refine e_callB E [([98], none, n.l.map fun f => .str f.nm)] ht (by rintro _ rfl; rfl) (by simp only [go_sem]) rfl (by simp only [go_sem]) (by simp) ?_
          rintro _ rfl
          simp only [go_sem]
          rw [← hb, decide_eq_true (by omega), decide_eq_true (by omega)]
          simp [twice]
        · rw [← hb, decide_eq_false (p := n.l.length ≤ 30) (by omega), Bool.and_false, Bool.false_and]
      · rw [← hb, decide_eq_false (by omega), Bool.false_and, Bool.false_and]
theorem f109_ok {G} (n : EN) : HP Tryz.prog G 109 [enD n] (fun r => r = .d (.bool (unusedB n))) := by
  generalize hb : unusedB n = b
  unfold unusedB at hb
  have hk := kidN_le n.k
  unfold enD efD
  refine funP_ok Tryz.func109 rfl (by decide +kernel) (by simp [Tryz.ntmps109]) (veil fun E => ?_)
  simp only [go_sem]
  refine region_xv mixed E fun X => ?_
  simp only [go_sem]
  refine x_call X (f154_ok n.k) rfl rfl (by simp) ?_
  simp only [go_sem]
  refine ⟨⟨by omega, by omega⟩, by decide +kernel, ?_⟩
  rw [show ([i64 n.a, i64 n.b, i64 n.c] : List D) = [n.a, n.b, n.c].map i64 from rfl]
  obtain ⟨k, hke⟩ : ∃ k, k = kidN n.k := ⟨_, rfl⟩
  rw [← hke] at hk hb ⊢
  have hL : ([n.a, n.b, n.c].drop k).length = 3 - k := by simp
  have hget : ∀ i, i < 3 - k → (List.map i64 [n.a, n.b, n.c]).getD (k + i) .nilp = i64 (([n.a, n.b, n.c].drop k).getD i 0) := fun i hi => by
    rw [ints_get (by simp; omega), List.getD_eq_getElem?_getD, List.getD_eq_getElem?_getD, List.getElem?_drop]
  generalize ([n.a, n.b, n.c] : List Int) = A at hb hL hget ⊢
  generalize A.drop k = L at hb hL hget
  refine loopO_e E (X := { i : Nat // i ≤ 3 - k ∧ (L.take i).all (fun x => decide (x = 0)) = true }) (fun x => [(16, .vw [11] k (3 - k)), (17, .d (i64 (3 - k : Nat))), (18, .d (i64 x.1))])
    (fun x => [([1], .box [.d (i64 n.k), .d (i64 n.a), .d (i64 n.b), .d (i64 n.c), .d (i64 n.n), .d (.str n.name), .d (.str n.s), .d (.sl (some 3) (n.l.map fD)), .d (i64 n.pos)]), ([11], .arr none (A.map i64))]) [11, 1] (fun x => 3 - k - x.1) ⟨0, by simp⟩ ?_ ?_
  · simp only [go_sem]
    all_goals rfl
  rintro ⟨i, hi, hall⟩ E0
  refine hideQ E0 fun Q' hQ E' => ?_
  simp only at hi hall ⊢
  simp only [go_sem]
  refine e_ifd E' (fun g1 => ?_) (fun g1 => ?_) <;> simp only [go_sem]
  · have hi' : i < 3 - k := by omega
    have hi2 : i < L.length := by omega
    have hLi : L.getD i 0 = L[i] := by simp [hi2]
    refine ⟨⟨by omega, by omega⟩, ?_⟩
    rw [hget i hi', hLi]
    simp only [go_sem]
    refine e_if E' (fun g2 => ?_) (fun g2 => ?_) <;> simp only [go_sem]
    · rw [hQ]
      simp only [go_sem]
      have : L.all (fun x => decide (x = 0)) = false := List.all_eq_false.2 ⟨_, List.getElem_mem hi2, by simpa using g2⟩
      rw [← hb, this]
    · rw [hQ]
      simp only [go_sem]
      have g3 : decide (L[i] = 0) = true := by simpa using g2
      refine ⟨⟨i + 1, by omega, by rw [List.take_succ_eq_append_getElem hi2, List.all_append, hall]; simpa using g3⟩, by show 3 - k - (i + 1) < _; omega, ?_⟩
      rw [w64_in ⟨by omega, by omega⟩]
      rfl
  · rw [hQ]
    have h3 : i = L.length := by omega
    subst h3
    rw [List.take_length] at hall
    simp only [go_sem]
    rw [← hb, hall]
theorem f58_ok {G} (n : EN) (h : SaneN BIG n) : HP Tryz.prog G 58 [enD n] (fun r => r = .d (.bool (rightE n))) := by
  generalize hb : rightE n = b
  unfold rightE at hb
  have c1 := f106_ok (G := G) n h
  have c2 := f107_ok (G := G) n
  have c3 := f108_ok (G := G) n h
  have c4 := f109_ok (G := G) n
  generalize namedB n = x1 at c1 hb
  generalize countedB n = x2 at c2 hb
  generalize partedB n = x3 at c3 hb
  generalize unusedB n = x4 at c4 hb
  unfold enD efD at *
  refine funP_ok Tryz.func58 rfl (by decide +kernel) (by simp [Tryz.ntmps58]) (veil fun E => ?_)
  simp only [go_sem]
  repeat (first
    | (apply e_gm E; (· simp only [go_sem]); (· intro h; (try simp only [Bool.and_eq_true, Bool.not_eq_true', Bool.not_eq_false'] at h); simp only [↓h, go_sem]; rfl); simp only [go_sem])
    | (apply e_gpk E; (· simp only [go_sem]); (· intro h; (try simp only [Bool.and_eq_true, Bool.not_eq_true', Bool.not_eq_false'] at h); simp only [↓h, go_sem]; rfl); (· intro h; (try simp only [Bool.and_eq_true, Bool.not_eq_true', Bool.not_eq_false'] at h); simp only [↓h, go_sem]; rfl); simp only [go_sem])
    | (apply e_gm2 E; (· simp only [go_sem]); (· rfl); (· intro h h'; (try simp only [Bool.and_eq_true, Bool.not_eq_true', Bool.not_eq_false'] at h h'); simp only [↓h, ↓h', go_sem]; rfl); simp only [go_sem])
    | (apply e_gpk2 E; (· simp only [go_sem]); (· rfl); (· intro h h'; (try simp only [Bool.and_eq_true, Bool.not_eq_true', Bool.not_eq_false'] at h h'); simp only [↓h, ↓h', go_sem]; rfl); (· intro h h'; (try simp only [Bool.and_eq_true, Bool.not_eq_true', Bool.not_eq_false'] at h h'); simp only [↓h, ↓h', go_sem]; rfl); simp only [go_sem])
    | (apply e_pk E; (· decide); simp only [go_sem]))
  refine e_if E (fun g => ?_) (fun g => ?_) <;> simp only [go_sem]
  · have g' : ¬ (1 ≤ n.k ∧ n.k ≤ 14 ∧ 0 ≤ n.pos ∧ n.pos ≤ 1048576) := by
      simp only [Bool.or_eq_true, decide_eq_true_eq] at g
      omega
    have : (decide (1 ≤ n.k) && decide (n.k ≤ 14) && decide (0 ≤ n.pos) && decide (n.pos ≤ 1048576)) = false := by
      rw [Bool.eq_false_iff]
      intro hc
      simp only [Bool.and_eq_true, decide_eq_true_eq] at hc
      exact g' ⟨hc.1.1.1, hc.1.1.2, hc.1.2, hc.2⟩
    rw [← hb, this, Bool.false_and]
  · refine e_call E (c1) rfl rfl (by simp) ?_
    rintro _ rfl
    simp only [go_sem]
    repeat (first
      | (apply e_gm E; (· simp only [go_sem]); (· intro h; (try simp only [Bool.and_eq_true, Bool.not_eq_true', Bool.not_eq_false'] at h); simp only [↓h, go_sem]; rfl); simp only [go_sem])
      | (apply e_gpk E; (· simp only [go_sem]); (· intro h; (try simp only [Bool.and_eq_true, Bool.not_eq_true', Bool.not_eq_false'] at h); simp only [↓h, go_sem]; rfl); (· intro h; (try simp only [Bool.and_eq_true, Bool.not_eq_true', Bool.not_eq_false'] at h); simp only [↓h, go_sem]; rfl); simp only [go_sem])
      | (apply e_gm2 E; (· simp only [go_sem]); (· rfl); (· intro h h'; (try simp only [Bool.and_eq_true, Bool.not_eq_true', Bool.not_eq_false'] at h h'); simp only [↓h, ↓h', go_sem]; rfl); simp only [go_sem])
      | (apply e_gpk2 E; (· simp only [go_sem]); (· rfl); (· intro h h'; (try simp only [Bool.and_eq_true, Bool.not_eq_true', Bool.not_eq_false'] at h h'); simp only [↓h, ↓h', go_sem]; rfl); (· intro h h'; (try simp only [Bool.and_eq_true, Bool.not_eq_true', Bool.not_eq_false'] at h h'); simp only [↓h, ↓h', go_sem]; rfl); simp only [go_sem])
      | (apply e_pk E; (· decide); simp only [go_sem]))
    (first | (apply e_gmx E; (· simp only [go_sem]); (· intro h hk; (try simp only [Bool.and_eq_true, Bool.not_eq_true', Bool.not_eq_false'] at h); refine e_call E (c2) rfl (by simp only [↓h, go_sem] <;> rfl) (by simp) ?_; rintro _ rfl; exact hk); simp only [go_sem]) | (apply e_gmx2 E; (· simp only [go_sem]); (· rfl); (· intro h h' hk; (try simp only [Bool.and_eq_true, Bool.not_eq_true', Bool.not_eq_false'] at h h'); refine e_call E (c2) rfl (by simp only [↓h, ↓h', go_sem] <;> rfl) (by simp) ?_; rintro _ rfl; exact hk); simp only [go_sem]))
    repeat (first
      | (apply e_gm E; (· simp only [go_sem]); (· intro h; (try simp only [Bool.and_eq_true, Bool.not_eq_true', Bool.not_eq_false'] at h); simp only [↓h, go_sem]; rfl); simp only [go_sem])
      | (apply e_gpk E; (· simp only [go_sem]); (· intro h; (try simp only [Bool.and_eq_true, Bool.not_eq_true', Bool.not_eq_false'] at h); simp only [↓h, go_sem]; rfl); (· intro h; (try simp only [Bool.and_eq_true, Bool.not_eq_true', Bool.not_eq_false'] at h); simp only [↓h, go_sem]; rfl); simp only [go_sem])
      | (apply e_gm2 E; (· simp only [go_sem]); (· rfl); (· intro h h'; (try simp only [Bool.and_eq_true, Bool.not_eq_true', Bool.not_eq_false'] at h h'); simp only [↓h, ↓h', go_sem]; rfl); simp only [go_sem])
      | (apply e_gpk2 E; (· simp only [go_sem]); (· rfl); (· intro h h'; (try simp only [Bool.and_eq_true, Bool.not_eq_true', Bool.not_eq_false'] at h h'); simp only [↓h, ↓h', go_sem]; rfl); (· intro h h'; (try simp only [Bool.and_eq_true, Bool.not_eq_true', Bool.not_eq_false'] at h h'); simp only [↓h, ↓h', go_sem]; rfl); simp only [go_sem])
      | (apply e_pk E; (· decide); simp only [go_sem]))
    (first | (apply e_gmx E; (· simp only [go_sem]); (· intro h hk; (try simp only [Bool.and_eq_true, Bool.not_eq_true', Bool.not_eq_false'] at h); refine e_call E (c3) rfl (by simp only [↓h, go_sem] <;> rfl) (by simp) ?_; rintro _ rfl; exact hk); simp only [go_sem]) | (apply e_gmx2 E; (· simp only [go_sem]); (· rfl); (· intro h h' hk; (try simp only [Bool.and_eq_true, Bool.not_eq_true', Bool.not_eq_false'] at h h'); refine e_call E (c3) rfl (by simp only [↓h, ↓h', go_sem] <;> rfl) (by simp) ?_; rintro _ rfl; exact hk); simp only [go_sem]))
    repeat (first
      | (apply e_gm E; (· simp only [go_sem]); (· intro h; (try simp only [Bool.and_eq_true, Bool.not_eq_true', Bool.not_eq_false'] at h); simp only [↓h, go_sem]; rfl); simp only [go_sem])
      | (apply e_gpk E; (· simp only [go_sem]); (· intro h; (try simp only [Bool.and_eq_true, Bool.not_eq_true', Bool.not_eq_false'] at h); simp only [↓h, go_sem]; rfl); (· intro h; (try simp only [Bool.and_eq_true, Bool.not_eq_true', Bool.not_eq_false'] at h); simp only [↓h, go_sem]; rfl); simp only [go_sem])
      | (apply e_gm2 E; (· simp only [go_sem]); (· rfl); (· intro h h'; (try simp only [Bool.and_eq_true, Bool.not_eq_true', Bool.not_eq_false'] at h h'); simp only [↓h, ↓h', go_sem]; rfl); simp only [go_sem])
      | (apply e_gpk2 E; (· simp only [go_sem]); (· rfl); (· intro h h'; (try simp only [Bool.and_eq_true, Bool.not_eq_true', Bool.not_eq_false'] at h h'); simp only [↓h, ↓h', go_sem]; rfl); (· intro h h'; (try simp only [Bool.and_eq_true, Bool.not_eq_true', Bool.not_eq_false'] at h h'); simp only [↓h, ↓h', go_sem]; rfl); simp only [go_sem])
      | (apply e_pk E; (· decide); simp only [go_sem]))
    (first | (apply e_gmx E; (· simp only [go_sem]); (· intro h hk; (try simp only [Bool.and_eq_true, Bool.not_eq_true', Bool.not_eq_false'] at h); refine e_call E (c4) rfl (by simp only [↓h, go_sem] <;> rfl) (by simp) ?_; rintro _ rfl; exact hk); simp only [go_sem]) | (apply e_gmx2 E; (· simp only [go_sem]); (· rfl); (· intro h h' hk; (try simp only [Bool.and_eq_true, Bool.not_eq_true', Bool.not_eq_false'] at h h'); refine e_call E (c4) rfl (by simp only [↓h, ↓h', go_sem] <;> rfl) (by simp) ?_; rintro _ rfl; exact hk); simp only [go_sem]))
    repeat (first
      | (apply e_gm E; (· simp only [go_sem]); (· intro h; (try simp only [Bool.and_eq_true, Bool.not_eq_true', Bool.not_eq_false'] at h); simp only [↓h, go_sem]; rfl); simp only [go_sem])
      | (apply e_gpk E; (· simp only [go_sem]); (· intro h; (try simp only [Bool.and_eq_true, Bool.not_eq_true', Bool.not_eq_false'] at h); simp only [↓h, go_sem]; rfl); (· intro h; (try simp only [Bool.and_eq_true, Bool.not_eq_true', Bool.not_eq_false'] at h); simp only [↓h, go_sem]; rfl); simp only [go_sem])
      | (apply e_gm2 E; (· simp only [go_sem]); (· rfl); (· intro h h'; (try simp only [Bool.and_eq_true, Bool.not_eq_true', Bool.not_eq_false'] at h h'); simp only [↓h, ↓h', go_sem]; rfl); simp only [go_sem])
      | (apply e_gpk2 E; (· simp only [go_sem]); (· rfl); (· intro h h'; (try simp only [Bool.and_eq_true, Bool.not_eq_true', Bool.not_eq_false'] at h h'); simp only [↓h, ↓h', go_sem]; rfl); (· intro h h'; (try simp only [Bool.and_eq_true, Bool.not_eq_true', Bool.not_eq_false'] at h h'); simp only [↓h, ↓h', go_sem]; rfl); simp only [go_sem])
      | (apply e_pk E; (· decide); simp only [go_sem]))
    have g' : ¬ (n.k < 1 ∨ 14 < n.k ∨ n.pos < 0 ∨ 1048576 < n.pos) := by
      simp only [Bool.or_eq_false_iff, decide_eq_false_iff_not] at g
      omega
    rw [← hb, decide_eq_true (show 1 ≤ n.k by omega), decide_eq_true (show n.k ≤ 14 by omega), decide_eq_true (show 0 ≤ n.pos by omega), decide_eq_true (show n.pos ≤ 1048576 by omega)]
    rfl
def bump (cs : List Int) (k : Int) : List Int := cs.set k.toNat (cs.getD k.toNat 0 + 1)
def bumps (cs ks : List Int) : List Int := ks.foldl bump cs
theorem bump_len (cs : List Int) (k : Int) : (bump cs k).length = cs.length := by simp [bump]
theorem bumps_len (ks : List Int) : ∀ cs : List Int, (bumps cs ks).length = cs.length := by
  induction ks with
  | nil => intro cs; rfl
  | cons k r ih => intro cs; show (bumps (bump cs k) r).length = _; rw [ih, bump_len]
theorem bumps_snoc (cs ks : List Int) (k : Int) : bumps cs (ks ++ [k]) = bump (bumps cs ks) k := by simp [bumps]
def Bd (M : Nat) (cs : List Int) : Prop := ∀ c ∈ cs, 0 ≤ c ∧ c ≤ (M : Int)
theorem Bd.bump {M : Nat} {cs : List Int} (h : Bd M cs) (k : Int) : Bd (M + 1) (bump cs k) := by
  intro c hc
  rcases List.mem_or_eq_of_mem_set hc with hc | hc
  · have := h c hc; omega
  · by_cases hk : k.toNat < cs.length
    · have := h cs[k.toNat] (List.getElem_mem hk)
      rw [hc, show cs.getD k.toNat 0 = cs[k.toNat] by simp [hk]]
      omega
    · rw [hc, show cs.getD k.toNat 0 = 0 by simp [hk]]
      omega
theorem Bd.bumps {ks : List Int} : ∀ {M : Nat} {cs : List Int}, Bd M cs → Bd (M + ks.length) (bumps cs ks) := by
  induction ks with
  | nil => intro M cs h; exact h
  | cons k r ih =>
    intro M cs h
    have := ih (h.bump k)
    rw [List.length_cons]
    intro c hc
    have := this c hc
    omega
theorem Bd.get {M : Nat} {cs : List Int} (h : Bd M cs) (i : Nat) : 0 ≤ cs.getD i 0 ∧ cs.getD i 0 ≤ (M : Int) := by
  by_cases hi : i < cs.length
  · rw [show cs.getD i 0 = cs[i] by simp [hi]]; exact h _ (List.getElem_mem hi)
  · rw [show cs.getD i 0 = 0 by simp [hi]]; omega
def inB (i : Nat) (k : Int) : Bool := decide (0 ≤ k) && decide (k < (i : Int))
theorem f59_ok {G} (ns : List EN) (i : Nat) (cs : List Int) (M : Nat) (hi : i < ns.length) (hn : ns.length ≤ 1000000) (hc : cs.length = ns.length) (hl : (ndE ns i).l.length ≤ 1000000) (hM : Bd M cs) (hM2 : M ≤ 1000000000000) :
    HCall Tryz.prog G 59 [.d (exD ns), .d (i64 i), .vw [100] 0 ns.length] [([100], .arr none (cs.map i64))] [100]
      (fun r hp' => ∃ cs' : List Int, cs'.length = ns.length ∧ (linkE ns i = true → cs' = bumps cs (kidsE (ndE ns i))) ∧ r = .d (.bool (linkE ns i)) ∧ hp' = [([100], .arr none (cs'.map i64))]) := by
  have hg := ens_get hi
  obtain ⟨n, hne⟩ : ∃ n, n = ndE ns i := ⟨_, rfl⟩
  rw [← hne] at hl hg ⊢
  have hkl := kidsE_len n
  have hwl : wideE n ≤ 1000003 := by unfold wideE; have := kidN_le n.k; split <;> omega
  obtain ⟨K, hK⟩ : ∃ K, K = kidsE n := ⟨_, rfl⟩
  have hlk : linkE ns i = (K.all (inB i) && (decide (n.k ≠ 8) || decide ((ndE ns n.a.toNat).k = 5))) := by
    unfold linkE inB
    rw [← hne, ← hK]
  rw [hlk]
  have hkc := f104_new (G := G) n (by omega)
  rw [← hK] at hkc hkl ⊢
  unfold exD
  refine funO_ok Tryz.func59 rfl (by decide +kernel) (by simp [Tryz.ntmps59]) (veil fun E => ?_)
  simp only [go_sem]
  refine ⟨⟨by omega, by omega⟩, ?_⟩
  rw [hg]
  simp only [go_sem]
  refine e_callO E [.d (enD n)] [] [] hkc rfl rfl ⟨by simp only [go_sem], by rw [mk_used]; decide⟩ rfl (by simp only [go_sem]) (by simp only [go_sem]) ?_
  rintro _ _ ⟨rfl, rfl⟩
  simp only [go_sem]
  refine c_frzA E [14, 0] none (K.map i64) rfl ?_
  simp only [go_sem]
  refine loopO_e E (X := { q : Nat // q ≤ K.length ∧ (K.take q).all (inB i) = true }) (fun x => [(1, .d (i64 i)), (2, .vw [100] 0 ns.length), (3, .at [3] 0), (6, .d (.bool false)), (14, .d (.sl none (K.map i64))), (15, .d (i64 K.length)), (16, .d (i64 x.1))])
    (fun x => [([100], .arr none ((bumps cs (K.take x.1)).map i64)), ([3], .box [.d (.sl (some 9) (ns.map enD))])]) [3, 100] (fun x => K.length - x.1) ⟨0, by simp⟩ ?_ ?_
  · simp only [go_sem]
    all_goals rfl
  rintro ⟨q, hq, hall⟩ E0
  refine hideQ E0 fun Q' hQ E' => ?_
  simp only at hq hall ⊢
  simp only [go_sem]
  refine e_ifd E' (fun g1 => ?_) (fun g1 => ?_) <;> simp only [go_sem]
  · have hq' : q < K.length := by omega
    refine ⟨⟨by omega, by omega⟩, ?_⟩
    rw [ints_get hq', show K.getD q 0 = K[q] by simp [hq']]
    simp only [go_sem]
    repeat (first
      | (apply e_gm E'; (· simp only [go_sem]); (· intro h; (try simp only [Bool.and_eq_true, Bool.not_eq_true', Bool.not_eq_false'] at h); simp only [↓h, go_sem]; rfl); simp only [go_sem])
      | (apply e_gpk E'; (· simp only [go_sem]); (· intro h; (try simp only [Bool.and_eq_true, Bool.not_eq_true', Bool.not_eq_false'] at h); simp only [↓h, go_sem]; rfl); (· intro h; (try simp only [Bool.and_eq_true, Bool.not_eq_true', Bool.not_eq_false'] at h); simp only [↓h, go_sem]; rfl); simp only [go_sem])
      | (apply e_gm2 E'; (· simp only [go_sem]); (· rfl); (· intro h h'; (try simp only [Bool.and_eq_true, Bool.not_eq_true', Bool.not_eq_false'] at h h'); simp only [↓h, ↓h', go_sem]; rfl); simp only [go_sem])
      | (apply e_gpk2 E'; (· simp only [go_sem]); (· rfl); (· intro h h'; (try simp only [Bool.and_eq_true, Bool.not_eq_true', Bool.not_eq_false'] at h h'); simp only [↓h, ↓h', go_sem]; rfl); (· intro h h'; (try simp only [Bool.and_eq_true, Bool.not_eq_true', Bool.not_eq_false'] at h h'); simp only [↓h, ↓h', go_sem]; rfl); simp only [go_sem])
      | (apply e_pk E'; (· decide); simp only [go_sem]))
    refine e_if E' (fun g2 => ?_) (fun g2 => ?_) <;> simp only [go_sem]
    · rw [hQ]
      simp only [go_sem]
      have g3 : inB i K[q] = false := by
        rw [Bool.eq_false_iff]
        intro hc
        simp only [inB, Bool.and_eq_true, decide_eq_true_eq] at hc
        simp only [Bool.or_eq_true, decide_eq_true_eq] at g2
        omega
      have ha : K.all (inB i) = false := List.all_eq_false.2 ⟨_, List.getElem_mem hq', by rw [g3]; decide⟩
      refine ⟨_, _, [100], id, ⟨bumps cs (K.take q), by rw [bumps_len, hc], fun h => by (rw [ha, Bool.false_and] at h; cases h), rfl, rfl⟩, ?_⟩
      simp only [go_sem]
      rw [ha]
      rfl
    · have g3 : 0 ≤ K[q] ∧ K[q] < (i : Int) := by
        simp only [Bool.or_eq_false_iff, decide_eq_false_iff_not] at g2
        omega
      have g4 : inB i K[q] = true := by simp only [inB, decide_eq_true g3.1, decide_eq_true g3.2, Bool.and_self]
      have hbl := bumps_len (K.take q) cs
      have hbd := (hM.bumps (ks := K.take q)).get K[q].toNat
      have htl : (K.take q).length ≤ 1000003 := by rw [List.length_take]; omega
      refine ⟨⟨by omega, by omega⟩, ?_⟩
      rw [ints_get (by omega)]
      simp only [go_sem]
      refine ⟨⟨by omega, by omega⟩, ?_⟩
      rw [w64_in (n := (bumps cs (K.take q)).getD K[q].toNat 0 + 1) ⟨by omega, by omega⟩, w64_in (n := (q : Int) + 1) ⟨by omega, by omega⟩]
      rw [show (List.map i64 (bumps cs (K.take q))).set K[q].toNat (.int .i64 ((bumps cs (K.take q)).getD K[q].toNat 0 + 1)) = (bumps cs (K.take (q + 1))).map i64 by
        rw [List.take_succ_eq_append_getElem hq', bumps_snoc]; unfold bump; rw [List.map_set]]
      rw [hQ]
      simp only [go_sem]
      refine ⟨⟨q + 1, by omega, by rw [List.take_succ_eq_append_getElem hq', List.all_append, hall]; simpa using g4⟩, by show K.length - (q + 1) < _; omega, ?_⟩
      first | rfl | exact ⟨rfl, rfl⟩
  · rw [hQ]
    have h3 : q = K.length := by omega
    subst h3
    rw [List.take_length] at *
    simp only [go_sem]
    refine region_xv mixed E fun X => ?_
    simp only [go_sem]
    refine ⟨⟨by omega, by omega⟩, ?_⟩
    rw [hg]
    simp only [go_sem]
    refine x_gifd X (fun g1 => ?_) (fun g1 => ?_) <;> simp only [go_sem]
    · refine ⟨by decide +kernel, ?_⟩
      refine ⟨_, _, [100], id, ⟨bumps cs K, by rw [bumps_len, hc], fun _ => rfl, rfl, rfl⟩, ?_⟩
      simp only [go_sem]
      rw [hall, decide_eq_true (show n.k ≠ 8 from g1)]
      rfl
    · have h8 : n.k = 8 := by omega
      have hka : K = [n.a, n.b] := by rw [hK]; unfold kidsE; rw [h8]; rfl
      have ha : 0 ≤ n.a ∧ n.a < (i : Int) := by
        rw [hka] at hall
        simp only [List.all_cons, inB, Bool.and_eq_true, decide_eq_true_eq] at hall
        exact hall.1
      rw [mk_put]
      simp only [go_sem]
      refine ⟨⟨by omega, by omega⟩, ?_⟩
      rw [hg]
      simp only [go_sem]
      refine ⟨⟨by omega, by omega⟩, ?_⟩
      rw [ens_get (show n.a.toNat < ns.length by omega)]
      simp only [go_sem]
      refine ⟨by decide +kernel, ?_⟩
      refine ⟨_, _, [100], id, ⟨bumps cs K, by rw [bumps_len, hc], fun _ => rfl, rfl, rfl⟩, ?_⟩
      simp only [go_sem]
      rw [hall, decide_eq_false g1]
      rfl
theorem f110_ok {G} (l : List Int) (p : Int → Bool) (f : Nat) (caps : List D) (hl : l.length ≤ 1000000) (hc : ∀ x ∈ l, HP Tryz.prog G f (i64 x :: caps) (fun r => r = .d (.bool (p x)))) :
    HP Tryz.prog G 110 [.sl none (l.map i64), .clo f caps] (fun r => ∃ z : Int, r = .d (i64 z) ∧ decide (0 ≤ z) = l.any p) := by
  have hget : ∀ {i : Nat} (h : i < l.length), (l.map i64).getD i .nilp = i64 l[i] := fun h => by simp [h]
  refine funP_ok Tryz.func110 rfl (by decide +kernel) (by simp [Tryz.ntmps110]) (veil fun E => ?_)
  simp only [go_sem]
  refine loopP_e E (X := { i : Nat // i ≤ l.length ∧ (l.take i).any p = false }) (fun x => [(0, .d (.sl none (l.map i64))), (1, .d (.clo f caps)), (6, .d (.sl none (l.map i64))), (7, .d (i64 l.length)), (8, .d (i64 x.1))]) (fun x => l.length - x.1) rfl ⟨0, Nat.zero_le _, by simp⟩ ?_ ?_
  · simp only [go_sem]
    all_goals rfl
  rintro ⟨i, hi, hab⟩ E'
  simp only [go_sem]
  refine e_ifd E' (fun h1 => ?_) (fun h1 => ?_) <;> simp only [go_sem]
  · have h1' : i < l.length := by omega
    refine ⟨⟨by omega, by omega⟩, ?_⟩
    rw [hget h1']
    simp only [go_sem]
    refine e_callD E' (hc l[i] (List.getElem_mem h1')) rfl rfl (by simp) ?_
    rintro _ rfl
    simp only [go_sem]
    refine e_if E' (fun h2 => ?_) (fun h2 => ?_) <;> simp only [go_sem]
    · refine ⟨_, rfl, ?_⟩
      have : l.any p = true := List.any_eq_true.2 ⟨l[i], List.getElem_mem h1', h2⟩
      rw [this]
      exact decide_eq_true (Int.natCast_nonneg _)
    · refine ⟨⟨i + 1, by omega, any_take' h1' hab h2⟩, by show l.length - (i + 1) < _; omega, ?_⟩
      rw [w64_in ⟨by omega, by omega⟩]; rfl
  · have h3 : i = l.length := by omega
    subst h3
    rw [List.take_length] at hab
    refine ⟨_, rfl, ?_⟩
    rw [hab]
    decide
theorem f60_ok {G} (l : List Int) (p : Int → Bool) (f : Nat) (caps : List D) (hl : l.length ≤ 1000000) (hc : ∀ x ∈ l, HP Tryz.prog G f (i64 x :: caps) (fun r => r = .d (.bool (p x)))) :
    HP Tryz.prog G 60 [.sl none (l.map i64), .clo f caps] (fun r => r = .d (.bool (l.any p))) := by
  refine funP_ok Tryz.func60 rfl (by decide +kernel) (by simp [Tryz.ntmps60]) (veil fun E => ?_)
  simp only [go_sem]
  refine e_call E (f110_ok l p f caps hl hc) rfl rfl (by simp) ?_
  rintro _ ⟨z, rfl, hz⟩
  simp only [go_sem]
  rw [hz]
theorem f61_ok {G} (k : Int) : HP Tryz.prog G 61 [i64 k] (fun r => r = .d (.bool (!decide (k = 1)))) := by
  refine funP_ok Tryz.func61 rfl (by decide +kernel) (by simp [Tryz.ntmps61]) (veil fun E => ?_)
  simp only [go_sem]
  by_cases h : k = 1 <;> simp [h]
theorem f151_ok {G} (l : List EN) (p : EN → Bool) (f : Nat) (caps : List D) (hl : l.length ≤ 1000000) (hc : ∀ x ∈ l, HP Tryz.prog G f (enD x :: caps) (fun r => r = .d (.bool (p x)))) :
    HP Tryz.prog G 151 [.sl (some 9) (l.map enD), .clo f caps] (fun r => ∃ z : Int, r = .d (i64 z) ∧ decide (0 ≤ z) = l.any p) := by
  have hget : ∀ {i : Nat} (h : i < l.length), (l.map enD).getD i .nilp = .agg [i64 l[i].k, i64 l[i].a, i64 l[i].b, i64 l[i].c, i64 l[i].n, .str l[i].name, .str l[i].s, .sl (some 3) (l[i].l.map fD), i64 l[i].pos] := fun h => by simp [h, enD, efD]
  refine funP_ok Tryz.func151 rfl (by decide +kernel) (by simp [Tryz.ntmps151]) (veil fun E => ?_)
  simp only [go_sem]
  refine loopP_e E (X := { i : Nat // i ≤ l.length ∧ (l.take i).any p = false }) (fun x => [(0, .d (.sl (some 9) (l.map enD))), (1, .d (.clo f caps)), (6, .d (.sl (some 9) (l.map enD))), (7, .d (i64 l.length)), (8, .d (i64 x.1))]) (fun x => l.length - x.1) rfl ⟨0, Nat.zero_le _, by simp⟩ ?_ ?_
  · simp only [go_sem]
    all_goals rfl
  rintro ⟨i, hi, hab⟩ E'
  simp only [go_sem]
  refine e_ifd E' (fun h1 => ?_) (fun h1 => ?_) <;> simp only [go_sem]
  · have h1' : i < l.length := by omega
    refine ⟨⟨by omega, by omega⟩, ?_⟩
    rw [hget h1']
    simp only [go_sem]
    refine e_callD E' (hc l[i] (List.getElem_mem h1')) rfl rfl (by simp) ?_
    rintro _ rfl
    simp only [go_sem]
    refine e_if E' (fun h2 => ?_) (fun h2 => ?_) <;> simp only [go_sem]
    · refine ⟨_, rfl, ?_⟩
      have : l.any p = true := List.any_eq_true.2 ⟨l[i], List.getElem_mem h1', h2⟩
      rw [this]
      exact decide_eq_true (Int.natCast_nonneg _)
    · refine ⟨⟨i + 1, by omega, any_take' h1' hab h2⟩, by show l.length - (i + 1) < _; omega, ?_⟩
      rw [w64_in ⟨by omega, by omega⟩]; rfl
  · have h3 : i = l.length := by omega
    subst h3
    rw [List.take_length] at hab
    refine ⟨_, rfl, ?_⟩
    rw [hab]
    decide
theorem f101_ok {G} (l : List EN) (p : EN → Bool) (f : Nat) (caps : List D) (hl : l.length ≤ 1000000) (hc : ∀ x ∈ l, HP Tryz.prog G f (enD x :: caps) (fun r => r = .d (.bool (p x)))) :
    HP Tryz.prog G 101 [.sl (some 9) (l.map enD), .clo f caps] (fun r => r = .d (.bool (l.any p))) := by
  refine funP_ok Tryz.func101 rfl (by decide +kernel) (by simp [Tryz.ntmps101]) (veil fun E => ?_)
  simp only [go_sem]
  refine e_call E (f151_ok l p f caps hl hc) rfl rfl (by simp) ?_
  rintro _ ⟨z, rfl, hz⟩
  simp only [go_sem]
  rw [hz]
theorem f102_ok {G} (n : EN) : HP Tryz.prog G 102 [enD n] (fun r => r = .d (.bool (decide (1048576 < n.pos)))) := by
  unfold enD efD
  refine funP_ok Tryz.func102 rfl (by decide +kernel) (by simp [Tryz.ntmps102]) (veil fun E => ?_)
  simp only [go_sem]
def depI (ns : List EN) (i : Nat) : List Int := depsE (ns.take i) []
theorem deps_snoc (n : EN) : ∀ (a : List EN) (d : List Int), depsE (a ++ [n]) d = depsE a d ++ [dep1 (depsE a d) n]
  | [], _ => rfl
  | _ :: r, _ => deps_snoc n r _
theorem depI_step {ns : List EN} {i : Nat} (h : i < ns.length) : depI ns (i + 1) = depI ns i ++ [dep1 (depI ns i) (ndE ns i)] := by
  unfold depI
  rw [List.take_succ_eq_append_getElem h, deps_snoc, ndE_eq h]
def mx (d : List Int) (ks : List Int) : Int := ks.foldl (fun m k => max m (d.getD k.toNat 0)) 0
theorem mx_snoc (d ks : List Int) (k : Int) : mx d (ks ++ [k]) = max (mx d ks) (d.getD k.toNat 0) := by simp [mx]
theorem dep1_mx (d : List Int) (n : EN) : dep1 d n = mx d (kidsE n) + 1 := rfl
theorem mx_bd {d : List Int} {M : Nat} (h : Bd M d) (ks : List Int) : 0 ≤ mx d ks ∧ mx d ks ≤ (M : Int) := by
  suffices g : ∀ (ks : List Int) (m : Int), 0 ≤ m ∧ m ≤ (M : Int) → 0 ≤ ks.foldl (fun m k => max m (d.getD k.toNat 0)) m ∧ ks.foldl (fun m k => max m (d.getD k.toNat 0)) m ≤ (M : Int) from g ks 0 ⟨Int.le_refl 0, by omega⟩
  intro ks
  induction ks with
  | nil => exact fun m h => h
  | cons k r ih =>
    intro m hm
    have := h.get k.toNat
    exact ih (max m (d.getD k.toNat 0)) ⟨by omega, by omega⟩
theorem depI_ok {ns : List EN} : ∀ {i : Nat}, i ≤ ns.length → (depI ns i).length = i ∧ Bd i (depI ns i)
  | 0, _ => by simp [depI, depsE, Bd]
  | i + 1, h => by
    obtain ⟨h1, h2⟩ := depI_ok (ns := ns) (i := i) (by omega)
    rw [depI_step (by omega)]
    refine ⟨by simp [h1], fun c hc => ?_⟩
    rcases List.mem_append.1 hc with hc | hc
    · have := h2 c hc; omega
    · rw [List.mem_singleton.1 hc, dep1_mx]
      have := mx_bd h2 (kidsE (ndE ns i))
      omega
def depA (ns : List EN) (i : Nat) (m : Int) : List Int := depI ns i ++ m :: List.replicate (ns.length - i - 1) 0
theorem depA_get {ns : List EN} {i : Nat} (hi : i < ns.length) (m : Int) : (depA ns i m).getD i 0 = m := by
  have := (depI_ok (ns := ns) (i := i) (by omega)).1
  unfold depA
  rw [List.getD_eq_getElem?_getD, List.getElem?_append_right (by omega), this, Nat.sub_self]
  rfl
theorem depA_low {ns : List EN} {i k : Nat} (hi : i ≤ ns.length) (m : Int) (hk : k < i) : (depA ns i m).getD k 0 = (depI ns i).getD k 0 := by
  have := (depI_ok (ns := ns) (i := i) hi).1
  unfold depA
  rw [List.getD_eq_getElem?_getD, List.getD_eq_getElem?_getD, List.getElem?_append_left (by omega)]
theorem depA_set {ns : List EN} {i : Nat} (hi : i < ns.length) (m x : Int) : (depA ns i m).set i x = depA ns i x := by
  have := (depI_ok (ns := ns) (i := i) (by omega)).1
  unfold depA
  rw [List.set_append_right _ _ (by omega), this, Nat.sub_self]
  rfl
theorem depA_len {ns : List EN} {i : Nat} (hi : i < ns.length) (m : Int) : (depA ns i m).length = ns.length := by
  have := (depI_ok (ns := ns) (i := i) (by omega)).1
  unfold depA
  simp only [List.length_append, List.length_cons, List.length_replicate]
  omega
theorem depA_next {ns : List EN} {i : Nat} (hi : i + 1 < ns.length) : depA ns i (dep1 (depI ns i) (ndE ns i)) = depA ns (i + 1) 0 := by
  unfold depA
  rw [depI_step (by omega), List.append_assoc, show ns.length - i - 1 = ns.length - (i + 1) - 1 + 1 by omega, List.replicate_succ]
  rfl
theorem depA_end {ns : List EN} {i : Nat} (hi : i + 1 = ns.length) : depA ns i (dep1 (depI ns i) (ndE ns i)) = depsE ns [] := by
  have h1 := depI_step (ns := ns) (i := i) (by omega)
  have h2 : depI ns (i + 1) = depsE ns [] := by unfold depI; rw [hi, List.take_length]
  rw [← h2, h1]
  unfold depA
  rw [show ns.length - i - 1 = 0 by omega]
  rfl
def depT (ns : List EN) (i : Nat) : List Int := if i < ns.length then depA ns i 0 else depsE ns []
theorem depT_zero (ns : List EN) : depT ns 0 = List.replicate ns.length 0 := by
  unfold depT
  split
  · rename_i h
    unfold depA depI
    rw [List.take_zero, show ns.length = (ns.length - 0 - 1) + 1 by omega, List.replicate_succ]
    simp [depsE]
  · rename_i h
    have : ns = [] := List.length_eq_zero_iff.1 (by omega)
    subst this
    rfl
theorem depT_step {ns : List EN} {i : Nat} (hi : i < ns.length) : depA ns i (dep1 (depI ns i) (ndE ns i)) = depT ns (i + 1) := by
  unfold depT
  split
  · rename_i h; exact depA_next h
  · exact depA_end (by omega)
theorem if_max (a b : Int) : (if a > b then a else b) = max b a := by split <;> omega
theorem f62_ok {G} (ns : List EN) (hn : ns.length ≤ 1000000) (hs : ∀ n ∈ ns, n.l.length ≤ 1000000) (hk : ∀ i, i < ns.length → (kidsE (ndE ns i)).all (inB i) = true) :
    HP Tryz.prog G 62 [exD ns] (fun r => r = .d (.sl none ((depsE ns []).map i64))) := by
  unfold exD
  refine funZ_ok Tryz.func62 rfl (by decide +kernel) (by simp [Tryz.ntmps62]) (veil fun E => ?_)
  simp only [go_sem]
  refine ⟨⟨by omega, by omega, by omega, by omega⟩, ?_⟩
  refine loopO_e E (X := { i : Nat // i ≤ ns.length }) (fun x => [(1, .at [1] 0), (2, .d .nils), (3, .vw [11] 0 ns.length), (13, .d (.sl (some 9) (ns.map enD))), (14, .d (i64 ns.length)), (15, .d (i64 x.1))])
    (fun x => [([1], .box [.d (.sl (some 9) (ns.map enD))]), ([11], .arr none ((depT ns x.1).map i64))]) [11, 1] (fun x => ns.length - x.1) ⟨0, Nat.zero_le _⟩ ?_ ?_
  · rw [depT_zero, List.map_replicate]
    simp only [go_sem]
    all_goals rfl
  rintro ⟨i, hi⟩ E0
  refine hideQ E0 fun Q' hQ E' => ?_
  simp only at hi ⊢
  simp only [go_sem]
  refine e_ifd E' (fun g1 => ?_) (fun g1 => ?_) <;> simp only [go_sem]
  · have hi' : i < ns.length := by omega
    refine ⟨⟨by omega, by omega⟩, ?_⟩
    have hg := ens_get hi'
    have hst := depT_step hi'
    rw [dep1_mx] at hst
    have hki := hk i hi'
    have hsi := hs _ (by rw [ndE_eq hi']; exact List.getElem_mem hi' : ndE ns i ∈ ns)
    obtain ⟨n, hne⟩ : ∃ n, n = ndE ns i := ⟨_, rfl⟩
    rw [← hne] at hg hst hki hsi
    rw [show depT ns i = depA ns i 0 by unfold depT; rw [if_pos hi'], hg]
    obtain ⟨hd1, hd2⟩ := depI_ok (ns := ns) (i := i) hi
    have hkc := f104_new (G := G) n hsi
    obtain ⟨K, hK⟩ : ∃ K, K = kidsE n := ⟨_, rfl⟩
    have hKl : K.length ≤ 1000003 := by rw [hK, kidsE_len]; unfold wideE; have := kidN_le n.k; split <;> omega
    rw [← hK] at hkc hki hst
    simp only [go_sem]
    refine e_callO E' [.d (enD n)] [] [] hkc rfl rfl ⟨by simp only [go_sem], by rw [mk_used]; decide⟩ rfl (by simp only [go_sem]) (by simp only [go_sem]) ?_
    rintro _ _ ⟨rfl, rfl⟩
    simp only [go_sem]
    refine c_frzA E' [21, 0] none (K.map i64) rfl ?_
    simp only [go_sem]
    refine loopO_e E' (X := { q : Nat // q ≤ K.length }) (fun x => [(1, .at [1] 0), (2, .d .nils), (3, .vw [11] 0 ns.length), (4, .d (i64 i)), (5, .at [5] 0), (13, .d (.sl (some 9) (ns.map enD))), (14, .d (i64 ns.length)), (15, .d (i64 i)), (21, .d (.sl none (K.map i64))), (22, .d (i64 K.length)), (23, .d (i64 x.1))])
      (fun x => [([1], .box [.d (.sl (some 9) (ns.map enD))]), ([11], .arr none ((depA ns i (mx (depI ns i) (K.take x.1))).map i64)), ([5], .box [.d (i64 n.k), .d (i64 n.a), .d (i64 n.b), .d (i64 n.c), .d (i64 n.n), .d (.str n.name), .d (.str n.s), .d (.sl (some 3) (n.l.map fD)), .d (i64 n.pos)])]) [5, 11, 1] (fun x => K.length - x.1) ⟨0, Nat.zero_le _⟩ ?_ ?_
    · simp only [go_sem]
      all_goals rfl
    rintro ⟨q, hq⟩ E2
    refine hideQ E2 fun Q2 hQ2 E3 => ?_
    simp only at hq ⊢
    have hal := depA_len hi' (mx (depI ns i) (K.take q))
    have hmb := mx_bd hd2 (K.take q)
    simp only [go_sem]
    refine e_ifd E3 (fun g2 => ?_) (fun g2 => ?_) <;> simp only [go_sem]
    · have hq' : q < K.length := by omega
      have hkq : 0 ≤ K[q] ∧ K[q] < (i : Int) := by
        have := List.all_eq_true.1 hki K[q] (List.getElem_mem hq')
        simpa [inB] using this
      refine ⟨⟨by omega, by omega⟩, ?_⟩
      rw [ints_get hq', show K.getD q 0 = K[q] by simp [hq']]
      simp only [go_sem]
      refine region_xv mixed E3 fun X => ?_
      simp only [go_sem]
      refine ⟨⟨by omega, by omega⟩, ?_⟩
      rw [ints_get (by omega), depA_get hi']
      simp only [go_sem]
      refine ⟨⟨by omega, by omega⟩, ?_⟩
      rw [ints_get (by omega), depA_low hi _ (show K[q].toNat < i by omega)]
      simp only [go_sem]
      refine ⟨⟨by omega, by omega⟩, by decide +kernel, ?_⟩
      rw [w64_in (n := (q : Int) + 1) ⟨by omega, by omega⟩]
      rw [show (List.map i64 (depA ns i (mx (depI ns i) (K.take q)))).set i (.int .i64 (if (depI ns i).getD K[q].toNat 0 > mx (depI ns i) (K.take q) then (depI ns i).getD K[q].toNat 0 else mx (depI ns i) (K.take q))) = (depA ns i (mx (depI ns i) (K.take (q + 1)))).map i64 by
        rw [List.take_succ_eq_append_getElem hq', mx_snoc, if_max, ← List.map_set, depA_set hi']]
      rw [hQ2]
      simp only [go_sem]
      refine ⟨⟨q + 1, by omega⟩, by show K.length - (q + 1) < _; omega, ?_⟩
      first | rfl | exact ⟨rfl, rfl⟩
    · rw [hQ2]
      have h3 : q = K.length := by omega
      subst h3
      rw [List.take_length] at *
      simp only [go_sem]
      refine ⟨⟨by omega, by omega⟩, ?_⟩
      rw [ints_get (by omega), depA_get hi']
      simp only [go_sem]
      refine ⟨⟨by omega, by omega⟩, ?_⟩
      rw [w64_in (n := mx (depI ns i) K + 1) ⟨by omega, by omega⟩, w64_in (n := (i : Int) + 1) ⟨by omega, by omega⟩]
      rw [show (List.map i64 (depA ns i (mx (depI ns i) K))).set i (.int .i64 (mx (depI ns i) K + 1)) = (depT ns (i + 1)).map i64 by
        rw [← hst, ← List.map_set, depA_set hi']]
      rw [hQ]
      simp only [go_sem]
      refine ⟨⟨i + 1, by omega⟩, by show ns.length - (i + 1) < _; omega, ?_⟩
      first | rfl | exact ⟨rfl, rfl⟩
  · rw [hQ]
    have h3 : i = ns.length := by omega
    subst h3
    simp only [go_sem]
    refine ⟨[([11], none, (depT ns ns.length).map i64)], ?_⟩
    rw [show depT ns ns.length = depsE ns [] by unfold depT; rw [if_neg (Nat.lt_irrefl _)]]
    simp only [go_sem]
    have hdl := (depI_ok (ns := ns) (Nat.le_refl _)).1
    unfold depI at hdl
    rw [List.take_length] at hdl
    rw [List.take_of_length_le (by rw [List.length_map, hdl]; exact Nat.le_refl _)]
theorem bump_get {cs : List Int} {k : Int} {j : Nat} (hj : j < cs.length) (hk : 0 ≤ k) : (bump cs k).getD j 0 = cs.getD j 0 + (if k = (j : Int) then 1 else 0) := by
  unfold bump
  rw [List.getD_eq_getElem?_getD, List.getElem?_set]
  by_cases h : k.toNat = j
  · rw [if_pos h, if_pos (by omega)]
    have : k = (j : Int) := by omega
    subst this
    simp [hj]
  · rw [if_neg h, if_neg (by omega)]
    simp
theorem bumps_get {j : Nat} : ∀ (ks cs : List Int), j < cs.length → (∀ k ∈ ks, 0 ≤ k) → (bumps cs ks).getD j 0 = cs.getD j 0 + (ks.countP (fun x => decide (x = (j : Int))) : Nat)
  | [], cs, _, _ => by simp [bumps]
  | k :: r, cs, hj, hk => by
    show (bumps (bump cs k) r).getD j 0 = _
    rw [bumps_get r _ (by rw [bump_len]; exact hj) (fun x hx => hk x (List.mem_cons_of_mem _ hx)), bump_get hj (hk k List.mem_cons_self), List.countP_cons]
    by_cases h : k = (j : Int) <;> simp [h] <;> omega
theorem bumps_app (cs a b : List Int) : bumps cs (a ++ b) = bumps (bumps cs a) b := by simp [bumps]
def cnts (ns : List EN) (i : Nat) : List Int := bumps (List.replicate ns.length 0) ((ns.take i).flatMap kidsE)
theorem cnts_len (ns : List EN) (i : Nat) : (cnts ns i).length = ns.length := by unfold cnts; rw [bumps_len, List.length_replicate]
theorem cnts_step {ns : List EN} {i : Nat} (h : i < ns.length) : cnts ns (i + 1) = bumps (cnts ns i) (kidsE (ndE ns i)) := by
  unfold cnts
  rw [List.take_succ_eq_append_getElem h, List.flatMap_append, bumps_app, ndE_eq h]
  simp
theorem cnts_bd {ns : List EN} (hs : ∀ n ∈ ns, n.l.length ≤ 1000000) : ∀ {i : Nat}, i ≤ ns.length → Bd (i * 1000003) (cnts ns i)
  | 0, _ => by
    intro c hc
    rw [show cnts ns 0 = List.replicate ns.length 0 by simp [cnts, bumps], List.mem_replicate] at hc
    omega
  | i + 1, h => by
    have ih := cnts_bd hs (i := i) (by omega)
    rw [cnts_step (by omega)]
    intro c hc
    have := ih.bumps (ks := kidsE (ndE ns i)) c hc
    have hl : (kidsE (ndE ns i)).length ≤ 1000003 := by
      rw [kidsE_len]; unfold wideE
      have := kidN_le (ndE ns i).k
      have h2 : (ndE ns i).l.length ≤ 1000000 := by rw [ndE_eq (by omega)]; exact hs _ (List.getElem_mem _)
      split <;> omega
    omega
theorem once_any {ns : List EN} (hk : ∀ i, i < ns.length → (kidsE (ndE ns i)).all (inB i) = true) : ((cnts ns ns.length).take (ns.length - 1)).any (fun c => !decide (c = 1)) = !onceE ns := by
  have hnn : ∀ k ∈ ns.flatMap kidsE, 0 ≤ k := fun k hkm => by
    obtain ⟨n, hn, hkn⟩ := List.mem_flatMap.1 hkm
    obtain ⟨i, hi, rfl⟩ := List.mem_iff_getElem.1 hn
    have h1 := hk i hi
    rw [ndE_eq hi] at h1
    have := List.all_eq_true.1 h1 k hkn
    simp only [inB, Bool.and_eq_true, decide_eq_true_eq] at this
    exact this.1
  have hget : ∀ j, j < ns.length → (cnts ns ns.length).getD j 0 = (cntE ns j : Int) := fun j hj => by
    unfold cnts cntE
    rw [List.take_length, bumps_get _ _ (by simpa using hj) hnn]
    simp [hj]
  have hl := cnts_len ns ns.length
  unfold onceE
  rw [Bool.eq_iff_iff]
  simp only [List.any_eq_true, Bool.not_eq_true', decide_eq_false_iff_not, List.all_eq_false, List.mem_range, decide_eq_true_eq]
  constructor
  · rintro ⟨c, hc, h1⟩
    obtain ⟨j, hj, rfl⟩ := List.mem_iff_getElem.1 hc
    rw [List.length_take] at hj
    refine ⟨j, by omega, fun h => h1 ?_⟩
    have := hget j (by omega)
    rw [h] at this
    rw [List.getElem_take]
    rw [List.getD_eq_getElem?_getD, List.getElem?_eq_getElem (by omega)] at this
    simpa using this
  · rintro ⟨j, hj, h1⟩
    refine ⟨(cnts ns ns.length)[j], List.mem_iff_getElem.2 ⟨j, by rw [List.length_take]; omega, by rw [List.getElem_take]⟩, fun h => h1 ?_⟩
    have := hget j (by omega)
    rw [List.getD_eq_getElem?_getD, List.getElem?_eq_getElem (by omega)] at this
    simp only [Option.getD_some, h] at this
    omega
theorem HP.clo {P : Program} {G : List (Nat × Obj)} {f : FuncId} {args : List AV} {ds : List D} {Q : AV → Prop} (hl : args.length = ds.length)
    (hr : ∀ (i : Nat) x y, args[i]? = some x → ds[i]? = some y → x = .d y ∨ ∃ g, x = .clo g [] ∧ y = .clo g []) (h : HP P G f ds Q) : HCall P G f args [] [] (fun r hp' => Q r ∧ r.inU [] = true ∧ hp' = []) := by
  refine ⟨h.1, fun B β vs w h1 h2 h3 h4 h5 => h.2 B β vs w (h1.trans (by simpa using hl)) h2 h3 h4 { tms := h5.tms, io := h5.io, size := h5.size, frame := h5.frame, slots := fun t => ?_, objs := h5.objs, blocks := h5.blocks, inj := h5.inj, us := h5.us, stay := h5.stay }⟩
  have hv := h5.slots t
  rw [mk_fr, argsFr_get, if_pos (Nat.zero_le _), Nat.sub_zero] at hv ⊢
  show VR w.heap ((mk (argsFr 0 (ds.map .d)) [] []).own B.A β) [] _ β _ _
  rw [List.getElem?_map]
  cases hx : args[t]? with
  | none =>
    rw [List.getElem?_eq_none (by rw [← hl]; exact List.getElem?_eq_none_iff.1 hx)]
    exact .un _
  | some x =>
    have hlt := (List.getElem?_eq_some_iff.1 hx).1
    have hy : ds[t]? = some ds[t] := List.getElem?_eq_getElem (by omega)
    rw [hx] at hv
    rw [hy]
    simp only [Option.map_some, Option.getD_some] at hv ⊢
    rcases hr t _ _ hx hy with e | ⟨g, e1, e2⟩
    · rw [← e]; exact hv
    · rw [e1] at hv
      rw [e2]
      generalize vs.getD t undef = v at hv ⊢
      cases hv with
      | clo _ vs' _ hs hc => exact .d _ _ (.clo _ _ _ hs (fun i d hd => by simp at hd))
def okI (ns : List EN) (i : Nat) : Bool := rightE (ndE ns i) && linkE ns i
theorem link_in {ns : List EN} {i : Nat} (h : linkE ns i = true) : (kidsE (ndE ns i)).all (inB i) = true := by
  unfold linkE at h
  rw [Bool.and_eq_true] at h
  exact h.1
set_option maxHeartbeats 1000000 in
theorem f17_ok {G} (ns : List EN) (hs : ∀ n ∈ ns, SaneN BIG n) (hN : ns.length ≤ 1000000) : HP Tryz.prog G 17 [exD ns] (fun r => r = .d (i64 (mayE ns))) := by
  generalize hb : mayE ns = b
  unfold mayE at hb
  unfold exD
  refine funP_ok Tryz.func17 rfl (by decide +kernel) (by simp [Tryz.ntmps17]) (veil fun E => ?_)
  simp only [go_sem]
  repeat (first
    | (apply e_gm E; (· simp only [go_sem]); (· intro h; (try simp only [Bool.and_eq_true, Bool.not_eq_true', Bool.not_eq_false'] at h); simp only [↓h, go_sem]; rfl); simp only [go_sem])
    | (apply e_gpk E; (· simp only [go_sem]); (· intro h; (try simp only [Bool.and_eq_true, Bool.not_eq_true', Bool.not_eq_false'] at h); simp only [↓h, go_sem]; rfl); (· intro h; (try simp only [Bool.and_eq_true, Bool.not_eq_true', Bool.not_eq_false'] at h); simp only [↓h, go_sem]; rfl); simp only [go_sem])
    | (apply e_gm2 E; (· simp only [go_sem]); (· rfl); (· intro h h'; (try simp only [Bool.and_eq_true, Bool.not_eq_true', Bool.not_eq_false'] at h h'); simp only [↓h, ↓h', go_sem]; rfl); simp only [go_sem])
    | (apply e_gpk2 E; (· simp only [go_sem]); (· rfl); (· intro h h'; (try simp only [Bool.and_eq_true, Bool.not_eq_true', Bool.not_eq_false'] at h h'); simp only [↓h, ↓h', go_sem]; rfl); (· intro h h'; (try simp only [Bool.and_eq_true, Bool.not_eq_true', Bool.not_eq_false'] at h h'); simp only [↓h, ↓h', go_sem]; rfl); simp only [go_sem])
    | (apply e_pk E; (· decide); simp only [go_sem]))
  refine e_if E (fun g => ?_) (fun g => ?_) <;> simp only [go_sem]
  · simp only [Bool.or_eq_true, decide_eq_true_eq] at g
    rw [if_pos (by omega)] at hb
    rw [hb]
  have g' : 0 < ns.length ∧ ns.length ≤ 600 := by
    simp only [Bool.or_eq_false_iff, decide_eq_false_iff_not] at g
    omega
  rw [if_neg (by omega)] at hb
  refine ⟨⟨by omega, by omega, by omega, by omega⟩, ?_⟩
  have hs' : ∀ n ∈ ns, n.l.length ≤ 1000000 := fun n hn => (hs n hn).l
  refine loopO_e E (X := { i : Nat // i ≤ ns.length ∧ ∀ j, j < i → okI ns j = true }) (fun x => [(1, .at [1] 0), (2, .d (i64 0)), (3, .vw [19] 0 ns.length), (21, .d (.sl (some 9) (ns.map enD))), (22, .d (i64 ns.length)), (23, .d (i64 x.1))])
    (fun x => [([1], .box [.d (.sl (some 9) (ns.map enD))]), ([19], .arr none ((cnts ns x.1).map i64))]) [19, 1] (fun x => ns.length - x.1) ⟨0, Nat.zero_le _, fun j h => absurd h (Nat.not_lt_zero _)⟩ ?_ ?_
  · rw [show cnts ns 0 = List.replicate ns.length 0 by simp [cnts, bumps], List.map_replicate]
    simp only [go_sem]
    all_goals rfl
  rintro ⟨i, hi, hok⟩ E0
  refine hideQ E0 fun Q' hQ E' => ?_
  simp only at hi hok ⊢
  simp only [go_sem]
  refine e_ifd E' (fun g1 => ?_) (fun g1 => ?_) <;> simp only [go_sem]
  · have hi' : i < ns.length := by omega
    refine ⟨⟨by omega, by omega⟩, ?_⟩
    have hg := ens_get hi'
    have hsn := hs _ (by rw [ndE_eq hi']; exact List.getElem_mem hi' : ndE ns i ∈ ns)
    have hc1 := f58_ok (G := G) _ hsn
    have hc2 := f59_ok (G := G) ns i (cnts ns i) (i * 1000003) hi' hN (cnts_len ns i) hsn.l (cnts_bd hs' hi) (by omega)
    have hok1 : okI ns i = (rightE (ndE ns i) && linkE ns i) := rfl
    have hcs := cnts_step hi'
    rw [← hcs] at hc2
    have bad : okI ns i = false → okE ns = false := fun h => List.all_eq_false.2 ⟨i, List.mem_range.2 hi', by
      show ¬ okI ns i = true
      rw [h]; decide⟩
    have good : okI ns i = true → ∀ j, j < i + 1 → okI ns j = true := fun h j hj => by
      by_cases e : j = i
      · rw [e]; exact h
      · exact hok j (by omega)
    generalize ndE ns i = n at hg hc1 hok1
    generalize rightE n = x at hc1 hok1
    generalize linkE ns i = y at hc2 hok1
    rw [hg]
    simp only [go_sem]
    refine e_call E' hc1 rfl rfl (by simp) ?_
    rintro _ rfl
    simp only [go_sem]
    refine e_gif E' (fun h1 => ?_) (fun h1 => ?_) <;> simp only [go_sem]
    · have hx : x = false := by simpa using h1
      rw [hQ]
      simp only [go_sem]
      rw [bad (by rw [hok1, hx]; rfl), Bool.false_and] at hb
      rw [← hb]
      rfl
    · have hx : x = true := by simpa using h1
      rw [mk_put]
      simp only [go_sem]
      refine e_callS E' (tau [([100], [19])]) [.d (exD ns), .d (i64 i), .vw [100] 0 ns.length] [([100], .arr none ((cnts ns i).map i64))] [100] hc2 rfl (by simp only [go_sem]; try rfl) ⟨by simp only [go_sem], by rw [mk_used]; decide⟩ rfl (by simp only [go_sem]) (by simp only [go_sem]) ?_
      rintro _ _ ⟨cs', hl', hcs', rfl, rfl⟩
      simp only [go_sem]
      refine ⟨by rw [cnts_len, hl']; exact Nat.le_refl _, ?_⟩
      refine e_if E' (fun h2 => ?_) (fun h2 => ?_) <;> simp only [go_sem]
      · rw [hQ]
        simp only [go_sem]
        rw [bad (by rw [hok1, show y = false by simpa using h2, Bool.and_false]), Bool.false_and] at hb
        rw [← hb]
        rfl
      · have hy : y = true := by simpa using h2
        rw [hQ, hcs' hy, w64_in (n := (i : Int) + 1) ⟨by omega, by omega⟩]
        simp only [go_sem]
        refine ⟨⟨i + 1, by omega, good (by rw [hok1, hx, hy]; rfl)⟩, by show ns.length - (i + 1) < _; omega, ?_⟩
        first | rfl | exact ⟨rfl, rfl⟩
  · rw [hQ]
    have h3 : i = ns.length := by omega
    subst h3
    simp only [go_sem]
    rw [w64_in (n := (ns.length : Int) - 1) ⟨by omega, by omega⟩]
    refine ⟨⟨by omega, by omega⟩, ?_⟩
    rw [show ((ns.length : Int) - 1).toNat - 0 = ns.length - 1 by omega]
    have hkk : ∀ i, i < ns.length → (kidsE (ndE ns i)).all (inB i) = true := fun i hi => by
      have := hok i hi
      unfold okI at this
      rw [Bool.and_eq_true] at this
      exact link_in this.2
    have hokE : okE ns = true := List.all_eq_true.2 fun j hj => hok j (List.mem_range.1 hj)
    have hcl := cnts_len ns ns.length
    have hc3 := f60_ok (G := G) ((cnts ns ns.length).take (ns.length - 1)) (fun c => !decide (c = 1)) 61 [] (by rw [List.length_take]; omega) (fun x _ => f61_ok x)
    rw [once_any hkk, List.map_take] at hc3
    have hc4 := HP.clo (args := [.d (.sl none (((cnts ns ns.length).map i64).take (ns.length - 1))), .clo 61 []]) rfl (fun i x y hx hy => by
      rcases i with _ | _ | i
      · cases hx; cases hy; exact .inl rfl
      · cases hx; cases hy; exact .inr ⟨61, rfl, rfl⟩
      · cases hx) hc3
    refine e_callBO E [([19], none, (cnts ns ns.length).map i64)] [.d (.sl none (((cnts ns ns.length).map i64).take (ns.length - 1))), .clo 61 []] [] [] hc4 (by rintro _ _ ⟨rfl, _, rfl⟩; exact ⟨rfl, rfl⟩) (by simp only [go_sem]) rfl (by simp only [go_sem]; try rfl) ⟨by simp only [go_sem], by rw [mk_used]; decide⟩ rfl (by simp only [go_sem]) (by simp only [go_sem]) ?_
    rintro _ _ ⟨rfl, _, rfl⟩
    simp only [go_sem]
    rw [hokE, Bool.true_and] at hb
    have hdl := (depI_ok (ns := ns) (Nat.le_refl _)).1
    unfold depI at hdl
    rw [List.take_length] at hdl
    refine e_if E (fun k1 => ?_) (fun k1 => ?_) <;> simp only [go_sem]
    · have : onceE ns = false := by simpa using k1
      rw [this] at hb
      rw [← hb]
      rfl
    · have : onceE ns = true := by simpa using k1
      rw [this, if_pos rfl] at hb
      unfold depthE at hb
      have hc5 := f62_ok (G := G) ns hN hs' hkk
      unfold exD at hc5
      refine region_xv mixed E fun X => ?_
      simp only [go_sem]
      refine x_call X hc5 rfl rfl (by simp) ?_
      simp only [go_sem]
      rw [w64_in (n := (ns.length : Int) - 1) ⟨by omega, by omega⟩]
      refine ⟨⟨by omega, by rw [hdl]; omega⟩, ?_⟩
      rw [ints_get (by omega), show ((ns.length : Int) - 1).toNat = ns.length - 1 by omega]
      simp only [go_sem]
      refine ⟨by decide +kernel, ?_⟩
      refine e_ifd E (fun k2 => ?_) (fun k2 => ?_) <;> simp only [go_sem]
      · rw [if_pos k2] at hb
        rw [← hb]
      · rw [if_neg k2] at hb
        rw [← hb]
def Seg (N : Nat) (xs : Nat → List D) (n : Nat) (L : List Int) : Prop := n + L.length ≤ N ∧ ∀ j, j < L.length → xs (n + j) = [i64 (L.getD j 0)]
theorem Seg.left {N : Nat} {xs : Nat → List D} {n : Nat} {a b : List Int} (h : Seg N xs n (a ++ b)) : Seg N xs n a :=
  ⟨by have := h.1; rw [List.length_append] at this; omega, fun j hj => by
    rw [h.2 j (by rw [List.length_append]; omega), List.getD_eq_getElem?_getD, List.getD_eq_getElem?_getD, List.getElem?_append_left hj]⟩
theorem Seg.right {N : Nat} {xs : Nat → List D} {n : Nat} {a b : List Int} (h : Seg N xs n (a ++ b)) : Seg N xs (n + a.length) b :=
  ⟨by have := h.1; rw [List.length_append] at this; omega, fun j hj => by
    have := h.2 (a.length + j) (by rw [List.length_append]; omega)
    rw [← Nat.add_assoc] at this
    rw [this, List.getD_eq_getElem?_getD, List.getD_eq_getElem?_getD, List.getElem?_append_right (by omega)]
    simp⟩
def subN (ns : List EN) (its : List Int) (x : Int) : EN := withE (ndE ns x.toNat) ((kidsE (ndE ns x.toNat)).map fun k => (its.idxOf k : Int))
def subL (ns : List EN) (its : List Int) (n : Nat) : List EN := (its.take n).map (subN ns its)
structure MayT (ns : List EN) : Prop where
  pos : 0 < ns.length
  few : ns.length ≤ 600
  right : ∀ i, i < ns.length → rightE (ndE ns i) = true
  link : ∀ i, i < ns.length → linkE ns i = true
  once : onceE ns = true
  deep : depthE ns ≤ 100
theorem mayT {ns : List EN} (h : mayE ns = 0) : MayT ns := by
  unfold mayE at h
  split at h
  · exact absurd h (by decide)
  rename_i h1
  split at h
  · rename_i h2
    split at h
    · exact absurd h (by decide)
    · rename_i h3
      rw [Bool.and_eq_true] at h2
      have h4 : ∀ i, i < ns.length → rightE (ndE ns i) = true ∧ linkE ns i = true := fun i hi => by
        have := List.all_eq_true.1 h2.1 i (List.mem_range.2 hi)
        simpa [Bool.and_eq_true] using this
      exact ⟨by omega, by omega, fun i hi => (h4 i hi).1, fun i hi => (h4 i hi).2, h2.2, by omega⟩
  · exact absurd h (by decide)
theorem MayT.kids {ns : List EN} (h : MayT ns) : ∀ i, i < ns.length → (kidsE (ndE ns i)).all (inB i) = true := fun i hi => link_in (h.link i hi)
theorem right_l {n : EN} (h : rightE n = true) : n.l.length ≤ 30 := by
  unfold rightE partedB at h
  simp only [Bool.and_eq_true] at h
  have h1 := h.2.1.2
  split at h1
  · simp only [Bool.and_eq_true, decide_eq_true_eq] at h1
    exact h1.2.1.2
  · have : n.l = [] := by simpa using h1
    rw [this]; decide
theorem MayT.l {ns : List EN} (h : MayT ns) : ∀ n ∈ ns, n.l.length ≤ 30 := fun n hn => by
  obtain ⟨i, hi, rfl⟩ := List.mem_iff_getElem.1 hn
  have := h.right i hi
  rw [ndE_eq hi] at this
  exact right_l this
theorem Tr.sub {ns : List EN} (h : Tr ns) : subL ns (belE ns ns.length ((ns.length : Int) - 1)) (belE ns ns.length ((ns.length : Int) - 1)).length = ns := by
  have h1 := h.norm
  have h0 := h.kids.1
  unfold subE at h1
  rw [show ((ns.length : Int) - 1).toNat + 1 = ns.length by omega] at h1
  unfold subL subN
  rw [List.take_length]
  exact h1
def checkS (s : PS) (ns : List EN) : List EN × Int × Int :=
  if s.err ≠ 0 then ([], s.pos, s.err) else if ns.any (fun n => decide (1048576 < n.pos)) then ([], 0, 7) else if mayE ns ≠ 0 then ([], 0, mayE ns) else (ns, 0, 0)
def startS (l : List Tok) (n : Int) : PS := ⟨l, n, 0, 0, 0⟩
def doneS (s : PS) : PS := if s.l.isEmpty then s else s.wrong
def parseS (s : List UInt8) : List EN × Int × Int :=
  if (lexS s).2.2 ≠ 0 then ([], (lexS s).2.1, (lexS s).2.2)
  else checkS (doneS (exprS 100 (startS (lexS s).1 (lexS s).2.1)).2) (exprS 100 (startS (lexS s).1 (lexS s).2.1)).1
theorem SS.done (s : PS) : SS s (doneS s) := by
  unfold doneS
  split
  · exact SS.refl s
  · exact SS.wrong s
theorem parse_ok {s : List UInt8} (h : (parseS s).2.2 = 0) : Tr (parseS s).1 ∧ mayE (parseS s).1 = 0 ∧ (parseS s).2.1 = 0 := by
  unfold parseS at h ⊢
  split
  · rename_i g; rw [if_pos g] at h; exact absurd h g
  rename_i he
  rw [if_neg he] at h
  have ht := (expr_good 100 (startS (lexS s).1 (lexS s).2.1)).tr
  unfold checkS at h ⊢
  split
  · rename_i g; rw [if_pos g] at h; exact absurd h g
  rename_i g1
  rw [if_neg g1] at h
  split
  · rename_i g; rw [if_pos g] at h; exact absurd h (by decide)
  rename_i g2
  rw [if_neg g2] at h
  split
  · rename_i g; rw [if_pos g] at h; exact absurd h g
  rename_i g3
  exact ⟨ht, by simpa using g3, rfl⟩
def resD (q : List EN × Int × Int) : AV := .tup [.d (if q.2.2 = 0 then exD q.1 else .agg [.nils]), .d (i64 q.2.1), .d (i64 q.2.2)]
theorem f56_ok {G} (s : PS) (ns : List EN) (hN : ns.length ≤ 1000000) (hs : ∀ n ∈ ns, SaneN BIG n) : HCall Tryz.prog G 56 [.at [100] 0, .d (exD ns)] (RO s) [100, 101] (fun r hp' => r = resD (checkS s ns) ∧ hp' = RO s) := by
  generalize hR : checkS s ns = R
  unfold checkS at hR
  have c1 := f101_ok (G := G) ns (fun n => decide (1048576 < n.pos)) 102 [] hN (fun x _ => f102_ok x)
  have c2 := f17_ok (G := G) ns hs hN
  generalize (ns.any fun n => decide (1048576 < n.pos)) = b at c1 hR
  generalize mayE ns = m at c2 hR
  have c3 := HP.clo (args := [.d (.sl (some 9) (ns.map enD)), .clo 102 []]) rfl (fun i x y hx hy => by
      rcases i with _ | _ | i
      · cases hx; cases hy; exact .inl rfl
      · cases hx; cases hy; exact .inr ⟨102, rfl, rfl⟩
      · cases hx) c1
  unfold exD at *
  unfold RO TO tksD
  refine funO_ok Tryz.func56 rfl (by decide +kernel) (by simp [Tryz.ntmps56]) (veil fun E => ?_)
  simp only [go_sem]
  refine e_callO E [.at [100] 0] (RO s) [100, 101] (f92_ok s) rfl rfl ⟨by simp only [go_sem], by first | (rw [mk_used]; decide) | (simp only [go_sem]; done) | (simp only [go_sem]; rw [mk_used]; decide) | (simp only [go_sem]; decide)⟩ rfl (by unfold RO TO tksD; simp only [go_sem]) (by unfold RO TO; simp only [go_sem]) ?_
  rintro _ _ ⟨rfl, rfl⟩
  unfold RO TO tksD
  simp only [go_sem]
  refine e_if E (fun h => ?_) (fun h => ?_) <;> simp only [go_sem]
  · have h' : ¬ s.err = 0 := by simpa using h
    rw [if_pos h'] at hR
    refine region_xv mixed E fun X => ?_
    simp only [go_sem]
    refine x_nilc X (d := 13) [100] 0 none [.at [101] 0, .d (i64 s.err), .d (i64 s.pos), .d (i64 s.nest)] (by simp only [go_sem]) rfl rfl ?_
    simp only [go_sem]
    refine x_nilc X (d := 17) [100] 0 none [.at [101] 0, .d (i64 s.err), .d (i64 s.pos), .d (i64 s.nest)] (by simp only [go_sem]) rfl rfl ?_
    simp only [go_sem]
    refine ⟨by decide +kernel, ?_⟩
    subst hR
    have he : resD ([], s.pos, s.err) = .tup [.d (.agg [.nils]), .d (i64 s.pos), .d (i64 s.err)] := by unfold resD; rw [if_neg h']
    rw [he]
    refine ⟨_, _, [100, 101], id, ⟨rfl, rfl⟩, ?_⟩
    simp only [go_sem]
  rw [if_neg (by simpa using h)] at hR
  refine e_callO E [.d (.sl (some 9) (ns.map enD)), .clo 102 []] [] [] c3 rfl rfl ⟨by simp only [go_sem], by rw [mk_used]; decide⟩ rfl (by simp only [go_sem]) (by simp only [go_sem]) ?_
  rintro _ _ ⟨rfl, _, rfl⟩
  simp only [go_sem]
  refine e_if E (fun h => ?_) (fun h => ?_) <;> simp only [go_sem]
  · rw [if_pos h] at hR
    subst hR
    have he : resD ([], 0, 7) = .tup [.d (.agg [.nils]), .d (i64 0), .d (i64 7)] := by unfold resD; rw [if_neg (by decide)]
    rw [he]
    refine ⟨_, _, [100, 101], id, ⟨rfl, rfl⟩, ?_⟩
    simp only [go_sem]
  rw [if_neg (by rw [h]; decide)] at hR
  refine e_call E c2 rfl rfl (by simp) ?_
  rintro _ rfl
  simp only [go_sem]
  refine e_if E (fun h => ?_) (fun h => ?_) <;> simp only [go_sem]
  · have h' : ¬ m = 0 := by simpa using h
    rw [if_pos h'] at hR
    subst hR
    have he : resD ([], 0, m) = .tup [.d (.agg [.nils]), .d (i64 0), .d (i64 m)] := by unfold resD; rw [if_neg h']
    rw [he]
    refine ⟨_, _, [100, 101], id, ⟨rfl, rfl⟩, ?_⟩
    simp only [go_sem]
  · have h' : m = 0 := by simpa using h
    rw [if_neg (by simpa using h')] at hR
    subst hR
    have he : resD (ns, 0, 0) = .tup [.d (.agg [.sl (some 9) (ns.map enD)]), .d (i64 0), .d (i64 0)] := by unfold resD; rw [if_pos rfl]; rfl
    rw [he]
    refine ⟨_, _, [100, 101], id, ⟨rfl, rfl⟩, ?_⟩
    simp only [go_sem]
theorem f52_raw {G} (l : List Tok) (fin : Int) (hl : l.length ≤ 1000000) : HCall Tryz.prog G 52 [.d (tksD l), .d (i64 fin)] [] [] (fun r hp' => r = .at [101] 0 ∧ hp' = [([101], .box [.vw [102] 0 l.length, .d (i64 fin)]), ([102], .arr (some 4) (l.map tokD))]) := by
  unfold tksD
  refine funO_ok Tryz.func52 rfl (by decide +kernel) (by simp [Tryz.ntmps52]) (veil fun E => ?_)
  simp only [go_sem]
  refine ⟨by omega, ?_⟩
  refine ⟨_, _, [101, 102], tau [([101], [9]), ([102], [6])], ⟨rfl, rfl⟩, ?_⟩
  simp only [go_sem]
  all_goals rfl
theorem f52_ok {G} (l : List Tok) (fin : Int) (hl : l.length ≤ 1000000) : HCall Tryz.prog G 52 [.d (tksD l), .d (i64 fin)] [] [] (fun r hp' => r = .at [101] 0 ∧ hp' = TO l fin) :=
  HCall.fA (f52_raw l fin hl) [102] (by
    rintro r hp' ⟨rfl, rfl⟩
    refine ⟨some 4, l.map tokD, by simp only [go_sem], by simp only [go_sem], ?_⟩
    unfold TO tksD
    simp only [go_sem])
theorem sane_of {s : PS} {ns : List EN} {r : PS} (h : GP 1 s (ns, r)) (hl : s.l.length ≤ 100000) (hn : Sm 200 ns) : ns.length ≤ 1000000 ∧ ∀ n ∈ ns, SaneN BIG n := by
  have h1 := h.sz
  have h2 := h.wd
  simp only at h1
  refine ⟨by omega, fun n hm => ?_⟩
  obtain ⟨a, b, c⟩ := hn n hm
  have := h2 n hm
  simp only at this
  exact ⟨by unfold BIG; omega, by unfold BIG; omega, by omega, fun f hf => ⟨by have := (c f hf).1; unfold BIG; omega, by have := (c f hf).2; unfold BIG; omega⟩⟩
set_option maxHeartbeats 1000000 in
theorem f15_ok {G} (s : List UInt8) (hl : s.length ≤ 100000) : HP Tryz.prog G 15 [.str s] (fun r => r = resD (parseS s)) := by
  generalize hR : parseS s = R
  unfold parseS at hR
  obtain ⟨hl1, hl2, hl3, hl4⟩ := lex_in s
  have hls := lex_s s
  cases hb : badT (toksS s) with
  | some q =>
    obtain ⟨i, e⟩ := q
    have c1 := f51_bad (G := G) s (by omega) hb
    have hne := badT_ne hb
    have hlx : lexS s = ([], i, e) := by unfold lexS; rw [hb]
    rw [hlx, if_pos hne] at hR
    simp only at hR hne
    have he : resD R = .tup [.d (.agg [.nils]), .d (i64 i), .d (i64 e)] := by rw [← hR]; unfold resD; rw [if_neg hne]
    rw [he]
    refine funZ_ok Tryz.func15 rfl (by decide +kernel) (by simp [Tryz.ntmps15]) (veil fun E => ?_)
    simp only [go_sem]
    refine e_call E c1 rfl rfl (by simp) ?_
    rintro _ rfl
    simp only [go_sem]
    refine e_if E (fun h => ?_) (fun h => absurd (by simpa using h) hne) <;> simp only [go_sem]
    refine ⟨[], ?_⟩
    simp only [go_sem]
  | none =>
    have c1 := f51_ok (G := G) s (by omega) hb
    have hz : (lexS s).2.2 = 0 := by unfold lexS; rw [hb]
    rw [if_neg (by rw [hz]; decide)] at hR
    rw [hz] at c1
    generalize lexS s = q at c1 hR hl1 hl2 hl3 hls
    obtain ⟨l, n, z⟩ := q
    simp only at c1 hR hl1 hl2 hl3 hls
    have c2 := f52_ok (G := G) l n (by omega)
    have hst : startS l n = ⟨l, n, 0, 0, 0⟩ := rfl
    obtain ⟨st, hs⟩ : ∃ st, st = startS l n := ⟨_, rfl⟩
    rw [← hs] at hR hst
    have hsl : st.l.length ≤ 100000 := by rw [hst]; simp only; omega
    have c3 := f53_ok (G := G) 100 0 rfl st hsl (by rw [hst])
    have g3 := expr_good 100 st
    have n3 := expr_nm (B := 200) 100 st (by rw [hst]; exact hls)
    obtain ⟨x, s2, hx⟩ : ∃ x s2, exprS 100 st = (x, s2) := ⟨_, _, rfl⟩
    rw [hx] at c3 g3 n3 hR
    simp only at c3 n3 hR
    have hl2' := g3.ss.len
    simp only at hl2'
    obtain ⟨hxl, hxs⟩ := sane_of g3 hsl n3
    have c4 := f54_ok (G := G) s2.l s2.fin
    have c5 := f55_ok (G := G) s2 (by omega)
    have c6 := f56_ok (G := G) (doneS s2) x hxl hxs
    unfold doneS at hR c6
    unfold exD at c3 c6
    unfold tksD at c2
    refine funZ_ok Tryz.func15 rfl (by decide +kernel) (by simp [Tryz.ntmps15]) (veil fun E => ?_)
    simp only [go_sem]
    refine e_call E c1 rfl rfl (by simp) ?_
    rintro _ rfl
    simp only [go_sem]
    refine e_callO E [.d (.sl (some 4) (l.map tokD)), .d (i64 n)] [] [] c2 rfl rfl ⟨by simp only [go_sem], by rw [mk_used]; decide⟩ rfl (by simp only [go_sem]) (by simp only [go_sem]) ?_
    rintro _ _ ⟨rfl, rfl⟩
    unfold TO tksD
    simp only [go_sem]
    rw [hst] at c3
    refine e_callS E (tau [([100], [25]), ([101], [23, 101])]) [.at [100] 0] (RO ⟨l, n, 0, 0, 0⟩) [100, 101] (c3) rfl (by simp only [go_sem]; try rfl) ⟨by simp only [go_sem], by first | (rw [mk_used]; decide) | (simp only [go_sem]; done) | (simp only [go_sem]; rw [mk_used]; decide) | (simp only [go_sem]; decide)⟩ rfl (by unfold RO TO tksD; simp only [go_sem]; try rfl) (by unfold RO TO; simp only [go_sem]) ?_
    rintro _ _ ⟨rfl, rfl⟩
    unfold RO TO tksD
    simp only [go_sem]
    refine e_callS E (tau [([101], [23, 101])]) [.at [101] 0] (TO s2.l s2.fin) [101] c4 rfl (by simp only [go_sem]; try rfl) ⟨by simp only [go_sem], by rw [mk_used]; decide⟩ rfl (by unfold TO tksD; simp only [go_sem]; try rfl) (by unfold TO; simp only [go_sem]) ?_
    rintro _ _ ⟨rfl, rfl⟩
    unfold TO tksD
    simp only [go_sem]
    refine e_if E (fun h => ?_) (fun h => ?_) <;> simp only [go_sem]
    · have h' : s2.l.isEmpty = false := by simpa using h
      rw [h'] at hR c6
      simp only [Bool.false_eq_true, if_false] at hR c6
      refine e_callS E (tau [([100], [25]), ([101], [23, 101])]) [.at [100] 0] (RO s2) [100, 101] (c5) rfl (by simp only [go_sem]; try rfl) ⟨by simp only [go_sem], by first | (rw [mk_used]; decide) | (simp only [go_sem]; done) | (simp only [go_sem]; rw [mk_used]; decide) | (simp only [go_sem]; decide)⟩ rfl (by unfold RO TO tksD; simp only [go_sem]; try rfl) (by unfold RO TO; simp only [go_sem]) ?_
      rintro _ _ ⟨rfl, rfl⟩
      unfold RO TO tksD
      simp only [go_sem]
      refine e_callS E (tau [([100], [25]), ([101], [23, 101])]) [.at [100] 0, .d (.agg [.sl (some 9) (x.map enD)])] (RO s2.wrong) [100, 101] (c6) rfl (by simp only [go_sem]; try rfl) ⟨by simp only [go_sem], by first | (rw [mk_used]; decide) | (simp only [go_sem]; done) | (simp only [go_sem]; rw [mk_used]; decide) | (simp only [go_sem]; decide)⟩ rfl (by unfold RO TO tksD; simp only [go_sem]; try rfl) (by unfold RO TO; simp only [go_sem]) ?_
      rintro _ _ ⟨rfl, rfl⟩
      unfold RO TO tksD
      simp only [go_sem]
      rw [hR]
      unfold resD exD
      by_cases hz : R.2.2 = 0
      · simp only [if_pos hz]
        simp only [go_sem]
        refine ⟨[], ?_⟩
        simp only [go_sem]
        unfold resD exD
        rw [if_pos hz]
      · simp only [if_neg hz]
        simp only [go_sem]
        refine ⟨[], ?_⟩
        simp only [go_sem]
        unfold resD
        rw [if_neg hz]
    · have h' : s2.l.isEmpty = true := by simpa using h
      rw [h'] at hR c6
      simp only [if_true] at hR c6
      refine e_callS E (tau [([100], [25]), ([101], [23, 101])]) [.at [100] 0, .d (.agg [.sl (some 9) (x.map enD)])] (RO s2) [100, 101] (c6) rfl (by simp only [go_sem]; try rfl) ⟨by simp only [go_sem], by first | (rw [mk_used]; decide) | (simp only [go_sem]; done) | (simp only [go_sem]; rw [mk_used]; decide) | (simp only [go_sem]; decide)⟩ rfl (by unfold RO TO tksD; simp only [go_sem]; try rfl) (by unfold RO TO; simp only [go_sem]) ?_
      rintro _ _ ⟨rfl, rfl⟩
      unfold RO TO tksD
      simp only [go_sem]
      rw [hR]
      unfold resD exD
      by_cases hz : R.2.2 = 0
      · simp only [if_pos hz]
        simp only [go_sem]
        refine ⟨[], ?_⟩
        simp only [go_sem]
        unfold resD exD
        rw [if_pos hz]
      · simp only [if_neg hz]
        simp only [go_sem]
        refine ⟨[], ?_⟩
        simp only [go_sem]
        unfold resD
        rw [if_neg hz]
theorem parse_sane {s : List UInt8} (hl : s.length ≤ 100000) (h : (parseS s).2.2 = 0) : (parseS s).1.length ≤ 1000000 ∧ ∀ n ∈ (parseS s).1, SaneN BIG n := by
  obtain ⟨_, _, hl3, _⟩ := lex_in s
  have hls := lex_s s
  unfold parseS at h ⊢
  split
  · rename_i g; rw [if_pos g] at h; exact absurd h g
  rename_i he
  rw [if_neg he] at h
  have g3 := expr_good 100 (startS (lexS s).1 (lexS s).2.1)
  have n3 := expr_nm (B := 200) 100 (startS (lexS s).1 (lexS s).2.1) hls
  have hx := sane_of g3 (by show (lexS s).1.length ≤ _; omega) n3
  unfold checkS at h ⊢
  repeat' split
  · exact ⟨Nat.zero_le _, fun _ h => by cases h⟩
  · exact ⟨Nat.zero_le _, fun _ h => by cases h⟩
  · exact ⟨Nat.zero_le _, fun _ h => by cases h⟩
  · exact hx
end Go.Proofs.YtejpnabbmgpmaaaGreat
