/-
  A type that came in; the chapter's example.
-/
import Derived.Test.YtjoneaifakonjaaDoorPH
set_option linter.all false
namespace Go.Proofs.YtjoneaifakonjaaDoor
open Go.Ab
theorem wk_node {F : D} {n : TN} (h : RawF F n.l) : Wk (.agg [i64 n.k, i64 n.a, i64 n.b, F]) (nodeD n) := by
  refine Wk.agg rfl (by simp [fldsD, D.scal]) fun i a b ha hb => ?_
  match i, ha, hb with
  | 0, ha, hb => cases ha; cases hb; exact .refl _
  | 1, ha, hb => cases ha; cases hb; exact .refl _
  | 2, ha, hb => cases ha; cases hb; exact .refl _
  | 3, ha, hb =>
    cases ha; cases hb
    rcases h with ⟨rfl, h⟩ | rfl
    · rw [h]; exact .nils _
    · exact .refl _
theorem okW_node (n : TN) : okW (some 4) (nodeD n) := ⟨rfl, by simp [fldsD, D.scal]⟩
theorem wk_type {xs : List D} {ns : List TN} {root : Int} (h : RawL xs ns) : Wk (.agg [.sl (some 4) xs, i64 root]) (typeS ns root) := by
  refine Wk.agg rfl (by simp [D.scal]) fun i a b ha hb => ?_
  match i, ha, hb with
  | 1, ha, hb => cases ha; cases hb; exact .refl _
  | 0, ha, hb =>
    cases ha; cases hb
    refine Wk.sl (by simp [h.len]) (fun b hb => by obtain ⟨n, _, rfl⟩ := List.mem_map.1 hb; exact okW_node n) fun i a b ha hb => ?_
    rw [List.getElem?_map, Option.map_eq_some_iff] at hb
    obtain ⟨n, hn, rfl⟩ := hb
    have hi := (List.getElem?_eq_some_iff.1 hn).1
    have hg := h.get i hi
    have hi2 : i < xs.length := by rw [h.len]; exact hi
    have e1 : xs.getD i .nilp = a := by simp [ha]
    have e2 : ns[i] = n := by
      have := List.getElem?_eq_getElem hi
      rw [this] at hn
      exact Option.some.inj hn
    rw [e1, e2] at hg
    obtain ⟨F, rfl, hF⟩ := hg
    refine ⟨rfl, fun j c d hc hd => ?_⟩
    match j, hc, hd with
    | 0, hc, hd => cases hc; cases hd; exact .refl _
    | 1, hc, hd => cases hc; cases hd; exact .refl _
    | 2, hc, hd => cases hc; cases hd; exact .refl _
    | 3, hc, hd =>
      cases hc; cases hd
      rcases hF with ⟨rfl, hF⟩ | rfl
      · rw [hF]; exact .nils _
      · exact .refl _
/-- The shape of a type. -/
def tsT : List TS := [.sl (some 4) [.int .i64, .int .i64, .int .i64, .sl (some 2) [.str, .int .i64]], .int .i64]
def In (L : D) (ns : List TN) : Prop := RawT L ns ∧ ns.length ≤ maxLen ∧ ∀ n ∈ ns, n.l.length ≤ maxLen ∧ ∀ f ∈ n.l, f.1.length ≤ maxLen
theorem flds_in : ∀ {xs : List D}, (∀ x ∈ xs, okW (some 2) x ∧ oks [.str, .int .i64] x.cells) → ∃ l : List Fld, xs = l.map fldD ∧ ∀ f ∈ l, f.1.length ≤ maxLen
  | [], _ => ⟨[], rfl, by simp⟩
  | x :: xs, h => by
    obtain ⟨l, hl, hf⟩ := flds_in fun y hy => h y (List.mem_cons_of_mem _ hy)
    obtain ⟨h1, h2⟩ := h x List.mem_cons_self
    cases x with
    | agg cs =>
      have h2 : oks [.str, .int .i64] cs := h2
      match cs, h2 with
      | [.str s, .int k n], h2 =>
        obtain ⟨g1, g2, _⟩ := h2
        obtain rfl : k = .i64 := g2.1
        exact ⟨(s, n) :: l, by rw [hl]; rfl, fun f hf' => by
          rcases List.mem_cons.1 hf' with rfl | hf'
          · exact g1
          · exact hf f hf'⟩
    | _ => simp [okW] at h1
theorem node_in {x : D} (h1 : okW (some 4) x) (h2 : oks [.int .i64, .int .i64, .int .i64, .sl (some 2) [.str, .int .i64]] x.cells) : ∃ n, RawN x n ∧ n.l.length ≤ maxLen ∧ ∀ f ∈ n.l, f.1.length ≤ maxLen := by
  cases x with
  | agg cs =>
    have h2 : oks [.int .i64, .int .i64, .int .i64, .sl (some 2) [.str, .int .i64]] cs := h2
    match cs, h2 with
    | [.int k1 a, .int k2 b, .int k3 c, F], h2 =>
      obtain ⟨g1, g2, g3, g4, _⟩ := h2
      obtain rfl : k1 = .i64 := g1.1
      obtain rfl : k2 = .i64 := g2.1
      obtain rfl : k3 = .i64 := g3.1
      cases F with
      | nils => exact ⟨⟨a, b, c, []⟩, ⟨.nils, rfl, .inl ⟨rfl, rfl⟩⟩, by simp, by simp⟩
      | sl w xs =>
        obtain ⟨rfl, g5, g6⟩ := g4
        obtain ⟨l, rfl, hl⟩ := flds_in g6
        exact ⟨⟨a, b, c, l⟩, ⟨_, rfl, .inr rfl⟩, by simpa using g5, hl⟩
      | _ => exact g4.elim
  | _ => simp [okW] at h1
theorem nodes_in : ∀ {xs : List D}, (∀ x ∈ xs, okW (some 4) x ∧ oks [.int .i64, .int .i64, .int .i64, .sl (some 2) [.str, .int .i64]] x.cells) → ∃ ns, RawL xs ns ∧ ∀ n ∈ ns, n.l.length ≤ maxLen ∧ ∀ f ∈ n.l, f.1.length ≤ maxLen
  | [], _ => ⟨[], trivial, by simp⟩
  | x :: xs, h => by
    obtain ⟨ns, h1, h2⟩ := nodes_in fun y hy => h y (List.mem_cons_of_mem _ hy)
    obtain ⟨g1, g2⟩ := h x List.mem_cons_self
    obtain ⟨n, k1, k2⟩ := node_in g1 g2
    exact ⟨n :: ns, ⟨k1, h1⟩, fun m hm => by
      rcases List.mem_cons.1 hm with rfl | hm
      · exact k2
      · exact h2 m hm⟩
theorem type_in {ds : List D} (h : oks tsT ds) : ∃ L root ns, ds = [L, i64 root] ∧ In L ns := by
  match ds, h with
  | [L, .int k n], h =>
    obtain ⟨h1, h2, _⟩ := h
    obtain rfl : k = .i64 := h2.1
    cases L with
    | nils => exact ⟨.nils, n, [], rfl, .inl ⟨rfl, rfl⟩, by simp, by simp⟩
    | sl w xs =>
      obtain ⟨rfl, g1, g2⟩ := h1
      obtain ⟨ns, k1, k2⟩ := nodes_in g2
      exact ⟨_, n, ns, rfl, .inr ⟨xs, rfl, k1⟩, by rw [← k1.len]; exact g1, k2⟩
    | _ => exact h1.elim
theorem maxLen_lt : maxLen ≤ 9223372036854775807 := by unfold maxLen; omega
theorem wk_typeD (ns : List TN) (root : Int) : Wk (typeD ns root) (typeS ns root) := by
  refine Wk.agg rfl (by simp [D.scal]) fun i a b ha hb => ?_
  match i, ha, hb with
  | 1, ha, hb => cases ha; cases hb; exact .refl _
  | 0, ha, hb =>
    cases ha; cases hb
    cases ns with
    | nil => exact .nils _
    | cons n r => exact .refl _
theorem few_len (ns : List TN) (most : Nat) (hm : most ≤ 1000) : (fewL ns most).length ≤ 2001 ∧ (fewL ns most).length ≤ ns.length := by
  simp only [fewL, List.length_map, List.length_take, fewN]
  split <;> omega
theorem few_sane {L : D} {ns : List TN} (h : In L ns) (most : Nat) (hm : most ≤ 1000) : Sane (fewL ns most) := by
  have hx := maxLen_lt
  refine ⟨by have := (few_len ns most hm).1; omega, fun n hn => ?_⟩
  obtain ⟨m, hm', rfl⟩ := List.mem_map.1 hn
  have hmem := List.mem_of_mem_take hm'
  obtain ⟨h1, h2⟩ := h.2.2 m hmem
  refine ⟨?_, fun f hf => ?_⟩
  · simp only [cut40, List.length_take]
    omega
  · have := h2 f (List.mem_of_mem_take hf)
    omega
theorem f5_ok {G} {L : D} {ns : List TN} (root : Int) (most : Nat) (h : In L ns) (hm : most ≤ 1000) : HP Tryd.prog G 5 [.agg [L, i64 root], i64 most] (fun r => r = .d (typeD (fewL ns most) root)) := by
  have hx := maxLen_lt
  rcases h.1 with ⟨rfl, rfl⟩ | ⟨xs, rfl, hr⟩
  · refine (f5_sl [] [] root most trivial (by simp) hm).wk ⟨Wk.agg rfl (by simp [D.scal]) fun i a b ha hb => ?_, .refl _, trivial⟩
    match i, ha, hb with
    | 0, ha, hb => cases ha; cases hb; exact .nils _
    | 1, ha, hb => cases ha; cases hb; exact .refl _
  · exact f5_sl xs ns root most hr (by have := h.2.1; omega) hm
theorem f5_again {G} (ns : List TN) (root : Int) (most : Nat) (hs : Sane ns) (hm : most ≤ 1000) : HP Tryd.prog G 5 [typeD ns root, i64 most] (fun r => r = .d (typeD (fewL ns most) root)) := by
  refine (f5_sl (ns.map nodeD) ns root most ?_ (by have := hs.1; omega) hm).wk ⟨wk_typeD ns root, .refl _, trivial⟩
  have : ∀ ns : List TN, RawL (ns.map nodeD) ns := fun ns => by
    induction ns with
    | nil => trivial
    | cons n r ih => exact ⟨⟨_, rfl, .inr rfl⟩, ih⟩
  exact this ns

theorem few_sixteen (ns : List TN) : (fewL ns 16).length ≤ 16 ∨ 2000 < (fewL ns 16).length := by
  simp only [fewL, List.length_map, List.length_take, fewN]
  split <;> omega
def nsW : List TN := [⟨7, 0, 0, [([110], 0), ([118], 1)]⟩, ⟨9, 2, 3, []⟩, ⟨3, 0, 0, []⟩, ⟨11, 9, 0, []⟩]
theorem saneW : Sane nsW := ⟨by decide, by intro n hn; simp [nsW] at hn; rcases hn with rfl | rfl | rfl | rfl <;> simp⟩
theorem rightsW : rightsB nsW = true := by decide +kernel
theorem endsW : endsB nsW = true := endsB_true fun i hi => by
  have hi : i < 4 := hi
  have h2 : Ends nsW 2 := .flat (by decide +kernel)
  have h3 : Ends nsW 3 := .flat (by decide +kernel)
  match i, hi with
  | 0, _ => exact .flat (by decide +kernel)
  | 1, _ => exact .both h2 h3
  | 2, _ => exact h2
  | 3, _ => exact h3
theorem mayW : mayZ nsW 0 = 0 := by
  unfold mayZ
  rw [rightsW, endsW]
  decide
def txtW : List UInt8 := [109, 117, 32, 39, 109, 48, 46, 32, 123, 110, 58, 32, 39, 109, 48, 44, 32, 118, 58, 32, 105, 110, 116, 32, 124, 32, 39, 118, 48, 125]
theorem nodeW : (nodeS nsW 100 [] 0 ([], false)).1.s = txtW ∧ (nodeS nsW 100 [] 0 ([], false)).2.2 = false := by decide +kernel
theorem printW : printS nsW 0 = (txtW, 0) := by
  rw [printS, if_pos mayW, nodeW.1, nodeW.2]
  rfl
def typW : D := .agg [.sl (some 4) [.agg [i64 7, i64 0, i64 0, .sl (some 2) [.agg [.str [110], i64 0], .agg [.str [118], i64 1]]], .agg [i64 9, i64 2, i64 3, .nils], .agg [i64 3, i64 0, i64 0, .nils], .agg [i64 11, i64 9, i64 0, .nils]], i64 0]
theorem wkW : WkL [typW] [typeS nsW 0] := ⟨wk_type ⟨⟨_, rfl, .inr rfl⟩, ⟨.nils, rfl, .inl ⟨rfl, rfl⟩⟩, ⟨.nils, rfl, .inl ⟨rfl, rfl⟩⟩, ⟨.nils, rfl, .inl ⟨rfl, rfl⟩⟩, trivial⟩, trivial⟩
end Go.Proofs.YtjoneaifakonjaaDoor
