/-
  Names: numbers behind names; which name is fresh.
-/
import Derived.Test.YtmplpdjddjiioaaDoorN3
import Derived.Test.YtmplpdjddjiioaaDoorU9
set_option linter.all false
namespace Go.Proofs.YtmplpdjddjiioaaDoor
open Go.Ab
variable {t : TypeId} {fz : Nat × Nat}
theorem f54_ok {G} (n : Int) (hn : inR n) : HP Tryd.prog G 54 [i64 n] (fun r => r = .d (.str (Lib.itoa n))) := by
  refine funP_ok Tryd.func54 rfl (by decide +kernel) (by simp [Tryd.ntmps54]) (veil fun E => ?_)
  simp only [go_sem, Nat.reduceEqDiff, Nat.reduceLT, ↓reduceIte, Nat.reduceAdd, Nat.reduceMul, Nat.reduceLeDiff, Nat.reduceSub, Nat.reduceBEq, Int.reduceEq, Int.reduceLT, Int.reduceLE, Int.reduceToNat, Int.reduceAdd, Int.reduceSub, Int.reduceNeg, UInt8.reduceToNat]
  refine e_ifd E (fun h => ?_) (fun h => ?_) <;> simp only [go_sem, Nat.reduceEqDiff, Nat.reduceLT, ↓reduceIte, Nat.reduceAdd, Nat.reduceMul, Nat.reduceLeDiff, Nat.reduceSub, Nat.reduceBEq, Int.reduceEq, Int.reduceLT, Int.reduceLE, Int.reduceToNat, Int.reduceAdd, Int.reduceSub, Int.reduceNeg, UInt8.reduceToNat]
  · subst h
    rw [show Lib.itoa 0 = [48] by decide +kernel]
  refine loopP_e E (X := { x : Int × List UInt8 // dd x.1.natAbs ++ x.2 = dd n.natAbs ∧ inR x.1 }) (fun x => [(0, .d (i64 n)), (2, .d (.str [])), (3, .d (.str x.1.2)), (4, .d (i64 x.1.1))]) (fun x => x.1.1.natAbs) rfl ⟨(n, []), by simp, hn⟩ ?_ ?_
  · simp only [go_sem, Nat.reduceEqDiff, Nat.reduceLT, ↓reduceIte, Nat.reduceAdd, Nat.reduceMul, Nat.reduceLeDiff, Nat.reduceSub, Nat.reduceBEq, Int.reduceEq, Int.reduceLT, Int.reduceLE, Int.reduceToNat, Int.reduceAdd, Int.reduceSub, Int.reduceNeg, UInt8.reduceToNat]
  rintro ⟨⟨m, acc⟩, hacc, hm⟩ E'
  simp only [go_sem, Nat.reduceEqDiff, Nat.reduceLT, ↓reduceIte, Nat.reduceAdd, Nat.reduceMul, Nat.reduceLeDiff, Nat.reduceSub, Nat.reduceBEq, Int.reduceEq, Int.reduceLT, Int.reduceLE, Int.reduceToNat, Int.reduceAdd, Int.reduceSub, Int.reduceNeg, UInt8.reduceToNat]
  have hacc : dd m.natAbs ++ acc = dd n.natAbs := hacc
  have hm : inR m := hm
  obtain ⟨hi1, hi2, hi3⟩ := dig_in hm
  have hlen := dd_len hn hacc
  refine e_ifd E' (fun h0 => ?_) (fun h0 => ?_) <;> simp only [go_sem, Nat.reduceEqDiff, Nat.reduceLT, ↓reduceIte, Nat.reduceAdd, Nat.reduceMul, Nat.reduceLeDiff, Nat.reduceSub, Nat.reduceBEq, Int.reduceEq, Int.reduceLT, Int.reduceLE, Int.reduceToNat, Int.reduceAdd, Int.reduceSub, Int.reduceNeg, UInt8.reduceToNat]
  · have hstep : dd (m.tdiv 10).natAbs ++ ([UInt8.ofNat (48 + m.natAbs % 10)] ++ acc) = dd n.natAbs := by
      rw [hi3, ← List.append_assoc, ← dd_step _ (by omega)]; exact hacc
    have hdec : (m.tdiv 10).natAbs < m.natAbs := by omega
    refine e_ifd E' (fun h1 => ?_) (fun h1 => ?_) <;> simp only [go_sem, Nat.reduceEqDiff, Nat.reduceLT, ↓reduceIte, Nat.reduceAdd, Nat.reduceMul, Nat.reduceLeDiff, Nat.reduceSub, Nat.reduceBEq, Int.reduceEq, Int.reduceLT, Int.reduceLE, Int.reduceToNat, Int.reduceAdd, Int.reduceSub, Int.reduceNeg, UInt8.reduceToNat]
    · rw [e_stp_no]
      refine conv_bytes [UInt8.ofNat (48 + m.natAbs % 10)] (by rw [ti62]) (by rw [ti5]) (by rw [ti9]) ?_ (by simp) (veil fun E2 => ?_)
      · simp only [go_sem, Nat.reduceEqDiff, Nat.reduceLT, ↓reduceIte, Nat.reduceAdd, Nat.reduceMul, Nat.reduceLeDiff, Nat.reduceSub, Nat.reduceBEq, Int.reduceEq, Int.reduceLT, Int.reduceLE, Int.reduceToNat, Int.reduceAdd, Int.reduceSub, Int.reduceNeg, UInt8.reduceToNat]
        rw [neg_dig h1, u8_dig _ (by omega)]
      · simp only [go_sem, Nat.reduceEqDiff, Nat.reduceLT, ↓reduceIte, Nat.reduceAdd, Nat.reduceMul, Nat.reduceLeDiff, Nat.reduceSub, Nat.reduceBEq, Int.reduceEq, Int.reduceLT, Int.reduceLE, Int.reduceToNat, Int.reduceAdd, Int.reduceSub, Int.reduceNeg, UInt8.reduceToNat]
        exact ⟨by omega, ⟨(m.tdiv 10, [UInt8.ofNat (48 + m.natAbs % 10)] ++ acc), hstep, hi1⟩, hdec, rfl, by rw [hi2]⟩
    · rw [e_stp_no]
      refine conv_bytes [UInt8.ofNat (48 + m.natAbs % 10)] (by rw [ti62]) (by rw [ti5]) (by rw [ti9]) ?_ (by simp) (veil fun E2 => ?_)
      · simp only [go_sem, Nat.reduceEqDiff, Nat.reduceLT, ↓reduceIte, Nat.reduceAdd, Nat.reduceMul, Nat.reduceLeDiff, Nat.reduceSub, Nat.reduceBEq, Int.reduceEq, Int.reduceLT, Int.reduceLE, Int.reduceToNat, Int.reduceAdd, Int.reduceSub, Int.reduceNeg, UInt8.reduceToNat]
        rw [pos_dig h1, u8_dig _ (by omega)]
      · simp only [go_sem, Nat.reduceEqDiff, Nat.reduceLT, ↓reduceIte, Nat.reduceAdd, Nat.reduceMul, Nat.reduceLeDiff, Nat.reduceSub, Nat.reduceBEq, Int.reduceEq, Int.reduceLT, Int.reduceLE, Int.reduceToNat, Int.reduceAdd, Int.reduceSub, Int.reduceNeg, UInt8.reduceToNat]
        exact ⟨by omega, ⟨(m.tdiv 10, [UInt8.ofNat (48 + m.natAbs % 10)] ++ acc), hstep, hi1⟩, hdec, rfl, by rw [hi2]⟩
  · have hm0 : m = 0 := by omega
    subst hm0
    have hacc : acc = Lib.decDigits n.natAbs := by
      have : dd (0 : Int).natAbs ++ acc = dd n.natAbs := hacc
      simpa [dd, h] using this
    refine e_ifd E (fun h2 => ?_) (fun h2 => ?_) <;> simp only [go_sem, Nat.reduceEqDiff, Nat.reduceLT, ↓reduceIte, Nat.reduceAdd, Nat.reduceMul, Nat.reduceLeDiff, Nat.reduceSub, Nat.reduceBEq, Int.reduceEq, Int.reduceLT, Int.reduceLE, Int.reduceToNat, Int.reduceAdd, Int.reduceSub, Int.reduceNeg, UInt8.reduceToNat]
    · exact ⟨by omega, by simp [Lib.itoa, h2, hacc]⟩
    · simp [Lib.itoa, h2, hacc]
      rw [show n.natAbs = n.toNat by omega]
theorem f64_ok {t fz} (n : Int) (hn : inR n) : HP Tryd.prog (GT t fz) 64 [i64 n, i64 10] (fun r => r = .d (.str (Lib.itoa n))) :=
  HP_of_calls (enter_run Tryd.func64 rfl (by decide +kernel)) rfl fun w hw =>
    (Any.internal_strconv_FormatInt_10 (ρ := Tryd.lays173_ren) { Tryd.lays173 with } n hn.1 hn.2 w (tab_is hw)).mono fun _ _ ⟨he, k, os, hw'⟩ => ⟨_, .str (Lib.itoa n), he, rfl, rfl, hw' ▸ Ext.grow w k os⟩
theorem f62_ok (n : Int) (hn : inR n) : HP Tryd.prog (GT t fz) 62 [i64 n] (fun r => r = .d (.str (Lib.itoa n))) := by
  refine funP_ok Tryd.func62 rfl (by decide +kernel) (by simp [Tryd.ntmps62]) (veil fun E => ?_)
  simp only [go_sem, Nat.reduceEqDiff, Nat.reduceLT, ↓reduceIte, Nat.reduceAdd, Nat.reduceMul, Nat.reduceLeDiff, Nat.reduceSub, Nat.reduceBEq, Int.reduceEq, Int.reduceLT, Int.reduceLE, Int.reduceToNat, Int.reduceAdd, Int.reduceSub, Int.reduceNeg, UInt8.reduceToNat]
  refine e_call E (f64_ok n hn) rfl rfl (by simp) ?_
  rintro _ rfl
  simp only [go_sem, Nat.reduceEqDiff, Nat.reduceLT, ↓reduceIte, Nat.reduceAdd, Nat.reduceMul, Nat.reduceLeDiff, Nat.reduceSub, Nat.reduceBEq, Int.reduceEq, Int.reduceLT, Int.reduceLE, Int.reduceToNat, Int.reduceAdd, Int.reduceSub, Int.reduceNeg, UInt8.reduceToNat]
theorem f52_ok (n : Int) (hn : inR n) : HP Tryd.prog (GT t fz) 52 [i64 n] (fun r => r = .d (.str (Lib.itoa n))) := by
  refine funP_ok Tryd.func52 rfl (by decide +kernel) (by simp [Tryd.ntmps52]) (veil fun E => ?_)
  simp only [go_sem, Nat.reduceEqDiff, Nat.reduceLT, ↓reduceIte, Nat.reduceAdd, Nat.reduceMul, Nat.reduceLeDiff, Nat.reduceSub, Nat.reduceBEq, Int.reduceEq, Int.reduceLT, Int.reduceLE, Int.reduceToNat, Int.reduceAdd, Int.reduceSub, Int.reduceNeg, UInt8.reduceToNat]
  refine e_call E (f62_ok n hn) rfl rfl (by simp) ?_
  rintro _ rfl
  simp only [go_sem, Nat.reduceEqDiff, Nat.reduceLT, ↓reduceIte, Nat.reduceAdd, Nat.reduceMul, Nat.reduceLeDiff, Nat.reduceSub, Nat.reduceBEq, Int.reduceEq, Int.reduceLT, Int.reduceLE, Int.reduceToNat, Int.reduceAdd, Int.reduceSub, Int.reduceNeg, UInt8.reduceToNat]
/-! ### Candidates -/
def cand (s : List UInt8) (n : Nat) : List UInt8 := if n = 0 then s else s.take 16 ++ Lib.itoa n
theorem itoa_inj {a b : Nat} (h : Lib.itoa (a : Int) = Lib.itoa (b : Int)) : a = b := by
  have e : ∀ n : Nat, valD (Lib.itoa (n : Int)) = n := fun n => by
    unfold Lib.itoa
    rw [if_neg (by omega)]
    simpa using (dec_val n).1
  rw [← e a, ← e b, h]
theorem cand_inj {s : List UInt8} {a b : Nat} (ha : a ≠ 0) (hb : b ≠ 0) (h : cand s a = cand s b) : a = b := by
  unfold cand at h
  rw [if_neg ha, if_neg hb] at h
  exact itoa_inj (List.append_cancel_left h)
theorem pigeon {α : Type} [DecidableEq α] : ∀ (l m : List α), l.Nodup → (∀ x ∈ l, x ∈ m) → l.length ≤ m.length
  | [], _, _, _ => Nat.zero_le _
  | a :: l, m, hn, h => by
    have ha := h a List.mem_cons_self
    have h1 := pigeon l (m.erase a) (List.nodup_cons.1 hn).2 fun x hx => by
      have hne : x ≠ a := fun e => (List.nodup_cons.1 hn).1 (e ▸ hx)
      exact (List.mem_erase_of_ne hne).2 (h x (List.mem_cons_of_mem _ hx))
    rw [List.length_erase_of_mem ha] at h1
    have : 0 < m.length := List.length_pos_of_mem ha
    simp only [List.length_cons]
    omega
/-- As many candidates as are used, and one, cannot all be used. -/
theorem cand_bound {s : List UInt8} {used : List (List UInt8)} {n : Nat} (h : ∀ j, 1 ≤ j → j ≤ n → cand s j ∈ used) : n ≤ used.length := by
  have := pigeon ((List.range' 1 n).map (cand s)) used ?_ ?_
  · simpa using this
  · rw [List.nodup_iff_pairwise_ne, List.pairwise_map]
    refine List.Pairwise.imp_of_mem ?_ (List.nodup_range' (s := 1) (n := n))
    intro a b ha hb hab e
    rw [List.mem_range'_1] at ha hb
    exact hab (cand_inj (by omega) (by omega) e)
  · intro x hx
    rw [List.mem_map] at hx
    obtain ⟨j, hj, rfl⟩ := hx
    rw [List.mem_range'_1] at hj
    exact h j (by omega) (by omega)
/-- The first candidate that is not used. -/
def isFresh (s : List UInt8) (used : List (List UInt8)) (n : Nat) : Prop := cand s n ∉ used ∧ ∀ j, j < n → cand s j ∈ used
theorem isFresh_uniq {s : List UInt8} {used : List (List UInt8)} {a b : Nat} (ha : isFresh s used a) (hb : isFresh s used b) : a = b := by
  rcases Nat.lt_trichotomy a b with h | h | h
  · exact absurd (hb.2 a h) ha.1
  · exact h
  · exact absurd (ha.2 b h) hb.1
theorem mlook_set {κ : Type} [DecidableEq κ] (a b : κ) (d : D) : ∀ ms : List (κ × D), mlook (mset ms a d) b = if a = b then some d else mlook ms b
  | [] => rfl
  | q :: r => by
    simp only [mset]
    split
    · rename_i e
      simp only [mlook]
      rw [e]
      split <;> rfl
    · rename_i e
      simp only [mlook, mlook_set a b d r]
      split
      · rename_i e2
        rw [if_neg (fun e3 => e (e2.trans e3.symm))]
      · rfl
/-- A set of texts as a map. -/
def setOf (l : List (List UInt8)) : List (List UInt8 × D) := l.foldl (fun ms u => mset ms u (.bool true)) []
theorem setOf_snoc (l : List (List UInt8)) (u : List UInt8) : setOf (l ++ [u]) = mset (setOf l) u (.bool true) := by simp [setOf]
theorem look_set (l : List (List UInt8)) (u : List UInt8) : (mlook (setOf l) u).getD (.bool false) = .bool (decide (u ∈ l)) := by
  suffices h : ∀ l : List (List UInt8), mlook (setOf l) u = if u ∈ l then some (.bool true) else none by
    rw [h]; split <;> simp_all
  intro l
  induction hl : l.length generalizing l with
  | zero => have : l = [] := List.length_eq_zero_iff.1 hl; subst this; rfl
  | succ n ih =>
    have hne : l ≠ [] := by intro e; rw [e] at hl; simp at hl
    obtain ⟨r, x, rfl⟩ : ∃ r x, l = r ++ [x] := ⟨l.dropLast, l.getLast hne, (List.dropLast_concat_getLast hne).symm⟩
    rw [setOf_snoc, mlook_set, ih r (by simpa using hl)]
    by_cases h1 : x = u
    · subst h1; simp
    · rw [if_neg h1]
      simp [Ne.symm h1]
end Go.Proofs.YtmplpdjddjiioaaDoor
