/-
  Trees in plain words: a node's children, a node with other children, trees put below a node, what stands below a node in order; a tree that was put together is in order. (with the parts that follow it)
-/
import Derived.Test.YtejpnabbmgpmaaaGreatWA
import Derived.Test.YtejpnabbmgpmaaaGreatWE
import Derived.Test.YtejpnabbmgpmaaaGreatWD
set_option linter.unusedSimpArgs false
namespace Go.Proofs.YtejpnabbmgpmaaaGreat
open Go.Ab
structure EF where
  nm : List UInt8
  var : List UInt8
  to : Int
structure EN where
  k : Int
  a : Int
  b : Int
  c : Int
  n : Int
  name : List UInt8
  s : List UInt8
  l : List EF
  pos : Int
def kidN (k : Int) : Nat := if k = 5 ∨ k = 12 ∨ k = 13 then 1 else if k = 6 ∨ k = 7 ∨ k = 8 ∨ k = 10 then 2 else if k = 9 then 3 else if k = 14 then 1 else 0
def partsZ (k : Int) : Bool := decide (k = 11) || decide (k = 14)
theorem kidN_le (k : Int) : kidN k ≤ 3 := by unfold kidN; (repeat' split) <;> omega
def kidsE (n : EN) : List Int := [n.a, n.b, n.c].take (kidN n.k) ++ (if partsZ n.k then n.l.map (·.to) else [])
def wideE (n : EN) : Nat := kidN n.k + (if partsZ n.k then n.l.length else 0)
theorem kidsE_len (n : EN) : (kidsE n).length = wideE n := by
  have := kidN_le n.k
  unfold kidsE wideE
  split <;> simp <;> omega
def partE (ks : List Int) (o : Nat) : List EF → Nat → List EF
  | [], _ => []
  | f :: r, i => (if o + i < ks.length then { f with to := ks.getD (o + i) 0 } else f) :: partE ks o r (i + 1)
def withE (n : EN) (ks : List Int) : EN :=
  { n with a := if 0 < kidN n.k then ks.getD 0 0 else 0, b := if 1 < kidN n.k then ks.getD 1 0 else 0, c := if 2 < kidN n.k then ks.getD 2 0 else 0, l := if partsZ n.k then partE ks (kidN n.k) n.l 0 else [] }
theorem partE_len (ks : List Int) (o : Nat) : ∀ (l : List EF) (i : Nat), (partE ks o l i).length = l.length
  | [], _ => rfl
  | _ :: r, i => by simp [partE, partE_len ks o r (i + 1)]
theorem partE_to (ks : List Int) (o : Nat) : ∀ (l : List EF) (i : Nat), o + i + l.length = ks.length → (partE ks o l i).map (·.to) = ks.drop (o + i)
  | [], i, h => by
    have h : o + i = ks.length := by simpa using h
    simp [partE, h]
  | f :: r, i, h => by
    simp only [List.length_cons] at h
    have hi : o + i < ks.length := by omega
    rw [partE, if_pos hi, List.map_cons, partE_to ks o r (i + 1) (by omega), List.drop_eq_getElem_cons hi]
    simp [hi, Nat.add_assoc]
theorem partE_over (ks ks' : List Int) (o : Nat) : ∀ (l : List EF) (i : Nat), o + i + l.length ≤ ks'.length → partE ks' o (partE ks o l i) i = partE ks' o l i
  | [], _, _ => rfl
  | f :: r, i, h => by
    simp only [List.length_cons] at h
    have hi : o + i < ks'.length := by omega
    rw [partE, partE, partE, if_pos hi, if_pos hi, partE_over ks ks' o r (i + 1) (by omega)]
    split <;> rfl
theorem withE_k (n : EN) (ks : List Int) : (withE n ks).k = n.k := rfl
theorem take3 : ∀ (m : Nat) (ks : List Int), m ≤ 3 → m ≤ ks.length → [if 0 < m then ks.getD 0 0 else 0, if 1 < m then ks.getD 1 0 else 0, if 2 < m then ks.getD 2 0 else 0].take m = ks.take m
  | 0, _, _, _ => by simp
  | 1, x :: _, _, _ => by simp
  | 2, x :: y :: _, _, _ => by simp
  | 3, x :: y :: z :: _, _, _ => by simp
  | 1, [], _, h => by simp at h
  | 2, [], _, h => by simp at h
  | 2, [_], _, h => by simp at h
  | 3, [], _, h => by simp at h
  | 3, [_], _, h => by simp at h
  | 3, [_, _], _, h => by simp at h
theorem kids_with {n : EN} {ks : List Int} (h : ks.length = wideE n) : kidsE (withE n ks) = ks := by
  have h3 := kidN_le n.k
  unfold wideE at h
  unfold kidsE
  rw [withE_k]
  show [if 0 < kidN n.k then ks.getD 0 0 else 0, if 1 < kidN n.k then ks.getD 1 0 else 0, if 2 < kidN n.k then ks.getD 2 0 else 0].take (kidN n.k) ++ (if partsZ n.k then (if partsZ n.k then partE ks (kidN n.k) n.l 0 else []).map (·.to) else []) = ks
  rw [take3 _ _ h3 (by omega)]
  split
  · rename_i hp
    rw [if_pos hp] at h
    rw [partE_to _ _ _ _ (by omega)]
    exact List.take_append_drop _ _
  · rename_i hp
    rw [if_neg hp] at h
    rw [List.append_nil, List.take_of_length_le (by omega)]
theorem with_with {n : EN} {ks ks' : List Int} (h : wideE n ≤ ks'.length) : withE (withE n ks) ks' = withE n ks' := by
  unfold wideE at h
  show ({ n with a := _, b := _, c := _, l := if partsZ n.k then partE ks' (kidN n.k) (if partsZ n.k then partE ks (kidN n.k) n.l 0 else []) 0 else [] } : EN) = { n with a := _, b := _, c := _, l := if partsZ n.k then partE ks' (kidN n.k) n.l 0 else [] }
  by_cases hp : partsZ n.k = true
  · rw [if_pos hp] at h
    simp only [hp, if_true]
    rw [partE_over _ _ _ _ _ (by omega)]
    rfl
  · simp only [hp]
    rfl
def shiftE (off : Nat) (n : EN) : EN := withE n ((kidsE n).map fun x : Int => x + off)
theorem kids_shift (off : Nat) (n : EN) : kidsE (shiftE off n) = (kidsE n).map fun x : Int => x + off := kids_with (by rw [List.length_map, kidsE_len])
theorem shift_shift (p q : Nat) (n : EN) : shiftE p (shiftE q n) = shiftE (p + q) n := by
  unfold shiftE
  have := kids_shift q n
  unfold shiftE at this
  rw [this, with_with (by rw [List.length_map, List.length_map, kidsE_len]; exact Nat.le_refl _), List.map_map]
  congr 1
  refine List.map_congr_left fun x _ => ?_
  simp only [Function.comp]
  omega
def catE : List (List EN) → List EN → List Int → List EN × List Int
  | [], acc, rs => (acc, rs)
  | l :: r, acc, rs => catE r (acc ++ l.map (shiftE acc.length)) (rs ++ [((acc.length + l.length : Nat) : Int) - 1])
def joinE (n : EN) (ls : List (List EN)) : List EN := (catE ls [] []).1 ++ [withE n (catE ls [] []).2]
inductive Tr : List EN → Prop
  | join (n : EN) (ls : List (List EN)) (hw : wideE n = ls.length) (h : ∀ l ∈ ls, Tr l) : Tr (joinE n ls)
def ndE (ns : List EN) (i : Nat) : EN := ns.getD i ⟨0, 0, 0, 0, 0, [], [], [], 0⟩
def belE (ns : List EN) : Nat → Int → List Int
  | 0, _ => []
  | m + 1, i => (kidsE (ndE ns i.toNat)).flatMap (belE ns m) ++ [i]
theorem catE_ex : ∀ (ls : List (List EN)) (acc : List EN) (rs : List Int), ∃ X Y, catE ls acc rs = (acc ++ X, rs ++ Y) ∧ Y.length = ls.length
  | [], acc, rs => ⟨[], [], by simp [catE], rfl⟩
  | l :: r, acc, rs => by
    obtain ⟨X, Y, e, h⟩ := catE_ex r (acc ++ l.map (shiftE acc.length)) (rs ++ [((acc.length + l.length : Nat) : Int) - 1])
    exact ⟨l.map (shiftE acc.length) ++ X, (((acc.length + l.length : Nat) : Int) - 1) :: Y, by rw [catE, e]; simp, by simp [h]⟩
def Lies (M ns : List EN) (off : Nat) : Prop := ∀ j, j < ns.length → ndE M (off + j) = shiftE off (ndE ns j)
def Good1 (l : List EN) : Prop := 0 < l.length ∧ ∀ (M : List EN) (off m : Nat), Lies M l off → off + l.length ≤ m → belE M m (((off + l.length : Nat) : Int) - 1) = (List.range l.length).map fun j => ((off + j : Nat) : Int)
theorem cat_bel : ∀ (ls : List (List EN)) (acc : List EN) (rs Y : List Int) (X : List EN), (∀ l ∈ ls, Good1 l) → catE ls acc rs = (acc ++ X, rs ++ Y) → ∀ (M : List EN) (off m : Nat), Lies M (acc ++ X) off → off + (acc ++ X).length ≤ m →
    (Y.map fun x : Int => x + off).flatMap (belE M m) = (List.range X.length).map fun j => ((off + acc.length + j : Nat) : Int)
  | [], acc, rs, Y, X, _, e, M, off, m, _, _ => by
    simp only [catE, Prod.mk.injEq] at e
    have h1 : X = [] := by have := congrArg List.length e.1; simp at this; exact this
    have h2 : Y = [] := by have := congrArg List.length e.2; simp at this; exact this
    subst h1; subst h2; simp
  | l :: r, acc, rs, Y, X, hg, e, M, off, m, hM, hm => by
    obtain ⟨X', Y', e', _⟩ := catE_ex r (acc ++ l.map (shiftE acc.length)) (rs ++ [((acc.length + l.length : Nat) : Int) - 1])
    rw [catE, e'] at e
    simp only [Prod.mk.injEq, List.append_assoc, List.append_cancel_left_eq] at e
    obtain ⟨rfl, rfl⟩ := e
    obtain ⟨h0, hl⟩ := hg l List.mem_cons_self
    have hlen : (acc ++ (l.map (shiftE acc.length) ++ X')).length = acc.length + l.length + X'.length := by simp [Nat.add_assoc]
    have ih := cat_bel r (acc ++ l.map (shiftE acc.length)) (rs ++ [((acc.length + l.length : Nat) : Int) - 1]) Y' X' (fun x hx => hg x (List.mem_cons_of_mem _ hx)) e' M off m (by rw [List.append_assoc]; exact hM) (by rw [List.append_assoc]; exact hm)
    have h1 : belE M m ((((acc.length + l.length : Nat) : Int) - 1) + off) = (List.range l.length).map fun j => ((off + acc.length + j : Nat) : Int) := by
      have := hl M (off + acc.length) m (fun j hj => ?_) (by omega)
      · rw [← this]
        congr 1
        omega
      · have hj2 := hM (acc.length + j) (by rw [hlen]; omega)
        rw [← Nat.add_assoc] at hj2
        rw [hj2]
        have : ndE (acc ++ (l.map (shiftE acc.length) ++ X')) (acc.length + j) = shiftE acc.length (ndE l j) := by
          unfold ndE
          rw [List.getD_eq_getElem?_getD, List.getElem?_append_right (by omega), List.getElem?_append_left (by simp; omega)]
          simp [hj]
        rw [this, shift_shift]
    simp only [List.map_append, List.map_cons, List.map_nil, List.flatMap_append, List.flatMap_cons, List.flatMap_nil, List.append_nil, List.singleton_append]
    rw [h1, ih]
    simp only [List.length_append, List.length_map]
    rw [List.range_add, List.map_append, List.map_map]
    congr 1
    refine List.map_congr_left fun j _ => ?_
    simp only [Function.comp]
    omega
theorem Tr.good {ns : List EN} (h : Tr ns) : Good1 ns := by
  induction h with
  | join n ls hw _ ih =>
    obtain ⟨X, Y, e, hY⟩ := catE_ex ls [] []
    have hj : joinE n ls = X ++ [withE n Y] := by unfold joinE; rw [e]; simp
    rw [hj]
    refine ⟨by simp, fun M off m hM hm => ?_⟩
    rw [List.length_append] at hm ⊢
    simp only [List.length_singleton] at hm ⊢
    have hroot : ndE M (off + X.length) = shiftE off (withE n Y) := by
      have := hM X.length (by simp)
      rw [this]
      congr 1
      simp [ndE]
    cases m with
    | zero => omega
    | succ m =>
      have hi : (((off + (X.length + 1) : Nat) : Int) - 1).toNat = off + X.length := by omega
      rw [belE, hi, hroot, kids_shift, kids_with (by rw [hY, hw])]
      have := cat_bel ls [] [] Y X (fun l hl => ih l hl) (by simpa using e) M off m (fun j hj => ?_) (by simp; omega)
      · rw [this, List.range_succ, List.map_append]
        simp only [List.length_nil, Nat.add_zero, List.map_cons, List.map_nil]
        congr 2
        omega
      · simp only [List.nil_append] at hj ⊢
        rw [hM j (by simp; omega)]
        congr 1
        simp [ndE, List.getElem?_append_left hj]
theorem shift_zero {n : EN} {ks : List Int} (h : ks.length = wideE n) : shiftE 0 (withE n ks) = withE n ks := by
  unfold shiftE
  rw [kids_with h, with_with (by rw [List.length_map, h]; exact Nat.le_refl _)]
  congr 1
  simp
theorem cat_self : ∀ (ls : List (List EN)) (acc : List EN) (rs : List Int), (∀ x ∈ acc, shiftE 0 x = x) → ∀ x ∈ (catE ls acc rs).1, shiftE 0 x = x
  | [], _, _, h => h
  | l :: r, acc, rs, h => by
    refine cat_self r _ _ fun x hx => ?_
    rcases List.mem_append.1 hx with hx | hx
    · exact h x hx
    · obtain ⟨y, _, rfl⟩ := List.mem_map.1 hx
      rw [shift_shift, Nat.zero_add]
theorem Tr.self {ns : List EN} (h : Tr ns) : ∀ x ∈ ns, shiftE 0 x = x := by
  cases h with
  | join n ls hw h =>
    intro x hx
    obtain ⟨X, Y, e, hY⟩ := catE_ex ls [] []
    rcases List.mem_append.1 (show x ∈ (catE ls [] []).1 ++ [withE n (catE ls [] []).2] from hx) with hx | hx
    · exact cat_self ls [] [] (by simp) x hx
    · rw [List.mem_singleton.1 hx, e]
      exact shift_zero (by simpa using hY.trans hw.symm)
def subE (ns : List EN) (i : Int) : List EN :=
  let its := belE ns (i.toNat + 1) i
  its.map fun x => withE (ndE ns x.toNat) ((kidsE (ndE ns x.toNat)).map fun k => (its.idxOf k : Int))
theorem range_nodup (N : Nat) : ((List.range N).map fun j => ((0 + j : Nat) : Int)).Nodup := List.Pairwise.map _ (fun a b hab e => hab (by omega)) List.nodup_range
theorem idxOf_range (N k : Nat) (h : k < N) : ((List.range N).map fun j => ((0 + j : Nat) : Int)).idxOf (k : Int) = k := by
  have := List.Nodup.idxOf_getElem (range_nodup N) k (by simpa using h)
  simpa using this
def KidsLt (b : Nat) (x : EN) : Prop := ∀ k ∈ kidsE x, 0 ≤ k ∧ k < (b : Int)
theorem KidsLt.mono {b c : Nat} {x : EN} (h : KidsLt b x) (hc : b ≤ c) : KidsLt c x := fun k hk => by have := h k hk; omega
theorem cat_kids : ∀ (ls : List (List EN)) (acc : List EN) (rs : List Int), (∀ l ∈ ls, 0 < l.length ∧ ∀ x ∈ l, KidsLt l.length x) → (∀ x ∈ acc, KidsLt acc.length x) → (∀ k ∈ rs, 0 ≤ k ∧ k < (acc.length : Int)) →
    (∀ x ∈ (catE ls acc rs).1, KidsLt (catE ls acc rs).1.length x) ∧ ∀ k ∈ (catE ls acc rs).2, 0 ≤ k ∧ k < ((catE ls acc rs).1.length : Int)
  | [], _, _, _, h1, h2 => ⟨h1, h2⟩
  | l :: r, acc, rs, hl, h1, h2 => by
    obtain ⟨g1, g2⟩ := hl l List.mem_cons_self
    refine cat_kids r _ _ (fun x hx => hl x (List.mem_cons_of_mem _ hx)) (fun x hx => ?_) (fun k hk => ?_)
    · rcases List.mem_append.1 hx with hx | hx
      · exact (h1 x hx).mono (by simp)
      · obtain ⟨y, hy, rfl⟩ := List.mem_map.1 hx
        intro k hk
        rw [kids_shift] at hk
        obtain ⟨q, hq, rfl⟩ := List.mem_map.1 hk
        have := g2 y hy q hq
        rw [List.length_append, List.length_map]
        omega
    · rw [List.length_append, List.length_map]
      rcases List.mem_append.1 hk with hk | hk
      · have := h2 k hk; omega
      · rw [List.mem_singleton.1 hk]; omega
theorem Tr.kids {ns : List EN} (h : Tr ns) : 0 < ns.length ∧ ∀ x ∈ ns, KidsLt ns.length x := by
  induction h with
  | join n ls hw _ ih =>
    obtain ⟨h1, h2⟩ := cat_kids ls [] [] ih (by simp) (by simp)
    have hl : (joinE n ls).length = (catE ls [] []).1.length + 1 := by simp [joinE]
    refine ⟨by omega, fun x hx => ?_⟩
    rw [hl]
    rcases List.mem_append.1 (show x ∈ (catE ls [] []).1 ++ [withE n (catE ls [] []).2] from hx) with hx | hx
    · exact (h1 x hx).mono (by omega)
    · rw [List.mem_singleton.1 hx]
      intro k hk
      obtain ⟨X, Y, e, hY⟩ := catE_ex ls [] []
      rw [kids_with (by rw [e]; simpa using hY.trans hw.symm)] at hk
      have := h2 k hk
      omega
theorem Tr.norm {ns : List EN} (h : Tr ns) : subE ns ((ns.length : Int) - 1) = ns := by
  obtain ⟨h0, hk⟩ := h.kids
  have hself : ∀ j, j < ns.length → ndE ns j ∈ ns := fun j hj => by
    have : ndE ns j = ns[j] := by simp [ndE, hj]
    rw [this]; exact List.getElem_mem hj
  have hb : belE ns (((ns.length : Int) - 1).toNat + 1) ((ns.length : Int) - 1) = (List.range ns.length).map fun j => ((0 + j : Nat) : Int) := by
    have := h.good.2 ns 0 (((ns.length : Int) - 1).toNat + 1) (fun j hj => by rw [Nat.zero_add]; exact (h.self _ (hself j hj)).symm) (by omega)
    rw [← this]
    congr 1
    omega
  unfold subE
  simp only [hb, List.map_map]
  refine List.ext_getElem (by simp) fun j h1 h2 => ?_
  have hx : ndE ns j = ns[j] := by simp [ndE, h2]
  have hm : ns[j] ∈ ns := List.getElem_mem h2
  simp only [List.getElem_map, List.getElem_range, Function.comp, Nat.zero_add, Int.toNat_natCast, hx]
  have hks : (kidsE ns[j]).map (fun k => (((List.range ns.length).map fun j => ((j : Nat) : Int)).idxOf k : Int)) = (kidsE ns[j]).map fun x : Int => x + (0 : Nat) := by
    refine List.map_congr_left fun k hkk => ?_
    obtain ⟨g1, g2⟩ := hk _ hm k hkk
    have := idxOf_range ns.length k.toNat (by omega)
    simp only [Nat.zero_add, Int.toNat_of_nonneg g1] at this
    rw [this]
    omega
  rw [hks]
  exact h.self _ hm
def fD (f : EF) : D := .agg [.str f.nm, .str f.var, i64 f.to]
def efD (l : List EF) : D := .sl (some 3) (l.map fD)
def enD (n : EN) : D := .agg [i64 n.k, i64 n.a, i64 n.b, i64 n.c, i64 n.n, .str n.name, .str n.s, efD n.l, i64 n.pos]
def exD (ns : List EN) : D := .agg [.sl (some 9) (ns.map enD)]
theorem f154_ok {G} (k : Int) : HP Tryz.prog G 154 [i64 k] (fun r => r = .d (.agg [i64 (kidN k), .bool (partsZ k)])) := by
  refine funP_ok Tryz.func154 rfl (by decide +kernel) (by simp [Tryz.ntmps154]) (veil fun E => ?_)
  simp only [go_sem]
  repeat' (refine e_ifd E (fun h => ?_) (fun h => ?_) <;> simp only [go_sem])
  all_goals first | (exfalso; omega) | (unfold kidN partsZ; simp_all)
theorem f155_new {G} (l : List Int) (hl : l.length ≤ 1000000) : HCall Tryz.prog G 155 [.d (.sl none (l.map i64))] [] [] (fun r hp' => r = .vw [0] 0 l.length ∧ hp' = [([0], .arr none (l.map i64))]) := by
  refine HCall.thaw (Q := fun r hp' => (r = .d .nils ∧ hp' = [] ∧ l = []) ∨ (r = .vw [0] 0 l.length ∧ hp' = [([0], .arr none (l.map i64))])) ?_ 0 none (by simp) ?_
  · refine funO_ok Tryz.func155 rfl (by decide +kernel) (by simp [Tryz.ntmps155]) (veil fun E => ?_)
    simp only [go_sem]
    refine e_nileq E (e := 3) (by simp only [go_sem]) (by simp only [go_sem]) rfl fun b hb => ?_
    simp only [go_sem]
    refine e_if E (fun h => ?_) (fun h => ?_) <;> simp only [go_sem]
    · have : l = [] := by simpa using hb h
      subst this
      refine ⟨_, [], [], id, .inl ⟨rfl, rfl, rfl⟩, ?_⟩
      simp only [go_sem]
    · refine ⟨by omega, _, _, [0], tau [([0], [7])], .inr ⟨rfl, rfl⟩, ?_⟩
      simp only [go_sem]
  · rintro r hp' (⟨rfl, rfl, rfl⟩ | h)
    · exact .inr ⟨rfl, rfl, rfl, rfl⟩
    · exact .inl h
theorem f156_new {G} (l : List EF) (hl : l.length ≤ 1000000) : HCall Tryz.prog G 156 [.d (efD l)] [] [] (fun r hp' => r = .vw [0] 0 l.length ∧ hp' = [([0], .arr (some 3) (l.map fD))]) := by
  refine HCall.thaw (Q := fun r hp' => (r = .d .nils ∧ hp' = [] ∧ l = []) ∨ (r = .vw [0] 0 l.length ∧ hp' = [([0], .arr (some 3) (l.map fD))])) ?_ 0 (some 3) (by simp) ?_
  · unfold efD
    refine funO_ok Tryz.func156 rfl (by decide +kernel) (by simp [Tryz.ntmps156]) (veil fun E => ?_)
    simp only [go_sem]
    refine e_nileq E (e := 177) (by simp only [go_sem]) (by simp only [go_sem]) rfl fun b hb => ?_
    simp only [go_sem]
    refine e_if E (fun h => ?_) (fun h => ?_) <;> simp only [go_sem]
    · have : l = [] := by simpa using hb h
      subst this
      refine ⟨_, [], [], id, .inl ⟨rfl, rfl, rfl⟩, ?_⟩
      simp only [go_sem]
    · refine ⟨by omega, _, _, [0], tau [([0], [7])], .inr ⟨rfl, rfl⟩, ?_⟩
      simp only [go_sem]
  · rintro r hp' (⟨rfl, rfl, rfl⟩ | h)
    · exact .inr ⟨rfl, rfl, rfl, rfl⟩
    · exact .inl h
theorem f104_new {G} (n : EN) (hl : n.l.length ≤ 1000000) : HCall Tryz.prog G 104 [.d (enD n)] [] [] (fun r hp' => r = .vw [0] 0 (kidsE n).length ∧ hp' = [([0], .arr none ((kidsE n).map i64))]) := by
  unfold enD efD
  refine funO_ok Tryz.func104 rfl (by decide +kernel) (by simp [Tryz.ntmps104]) (veil fun E => ?_)
  simp only [go_sem]
  refine e_call E (f154_ok n.k) rfl rfl (by simp) ?_
  rintro _ rfl
  simp only [go_sem]
  have hk3 := kidN_le n.k
  refine ⟨⟨by omega, by omega⟩, ?_⟩
  refine e_frzA E [16] none _ rfl (by simp only [go_sem]; rfl) ?_
  simp only [go_sem]
  obtain ⟨K, hK⟩ : ∃ K, K = [n.a, n.b, n.c].take (kidN n.k) := ⟨_, rfl⟩
  have hKl : K.length = kidN n.k := by rw [hK]; simp; omega
  have hKd : List.take (kidN n.k) [i64 n.a, i64 n.b, i64 n.c] = K.map i64 := by rw [hK, List.map_take]; rfl
  rw [Nat.sub_zero, hKd]
  refine e_callO E [.d (.sl none (K.map i64))] [] [] (f155_new K (by omega)) rfl rfl ⟨by simp only [go_sem], by rw [mk_used]; decide⟩ rfl (by simp only [go_sem]) (by simp only [go_sem]) ?_
  rintro _ _ ⟨rfl, rfl⟩
  simp only [go_sem]
  refine e_if E (fun hp => ?_) (fun hp => ?_) <;> simp only [go_sem]
  · refine loopT_e E (X := { i : Nat // i ≤ n.l.length }) (fun x => [(4, .vw [99] 0 (K.length + x.1)), (24, .d (.sl (some 3) (n.l.map fD))), (25, .d (i64 n.l.length)), (26, .d (i64 x.1))]) (fun x => [([99], .arr none ((K ++ (n.l.take x.1).map (·.to)).map i64))]) [99] (fun x => n.l.length - x.1) ⟨0, Nat.zero_le _⟩ (tau [([99], [20, 0])]) ?_ ?_
    · simp only [go_sem]
      rw [List.append_nil]
    rintro ⟨i, hi⟩ E0
    refine hideQ E0 fun Q' hQ E' => ?_
    simp only at hi ⊢
    simp only [go_sem]
    refine e_ifd E' (fun h1 => ?_) (fun h1 => ?_) <;> simp only [go_sem]
    · have h1' : i < n.l.length := by omega
      have hx : (n.l.map fD).getD i .nilp = .agg [.str n.l[i].nm, .str n.l[i].var, i64 n.l[i].to] := by simp [h1', fD]
      refine ⟨⟨by omega, by omega⟩, ?_⟩
      rw [hx]
      simp only [go_sem]
      have htk : List.take (K.length + i) (List.map i64 (K ++ List.map (·.to) (List.take i n.l))) ++ [i64 n.l[i].to] = List.map i64 (K ++ List.map (·.to) (List.take (i + 1) n.l)) := by
        rw [List.take_of_length_le (by simp; omega), List.take_succ_eq_append_getElem h1']
        simp only [List.map_append, List.map_cons, List.map_nil, List.append_assoc]
      rw [htk, w64_in ⟨by omega, by omega⟩, hQ]
      simp only [go_sem]
      refine ⟨by omega, ⟨i + 1, by omega⟩, by show n.l.length - (i + 1) < _; omega, tau [([99], [34])], ?_⟩
      simp only [go_sem]
      exact ⟨rfl, rfl⟩
    · rw [hQ]
      simp only [go_sem]
      have hi2 : i = n.l.length := by omega
      subst hi2
      have hkk : K ++ List.map (·.to) (List.take n.l.length n.l) = kidsE n := by
        rw [List.take_length, hK]
        simp [kidsE, hp]
      have hkl : (kidsE n).length = K.length + n.l.length := by rw [← hkk]; simp
      rw [hkk, ← hkl]
      refine ⟨_, _, [0], tau [([0], [99])], ⟨rfl, rfl⟩, ?_⟩
      simp only [go_sem]
  · have hkk : K = kidsE n := by
      rw [hK]
      simp [kidsE, hp]
    rw [hkk]
    refine ⟨_, _, [0], tau [([0], [20, 0])], ⟨rfl, rfl⟩, ?_⟩
    simp only [go_sem]
theorem ndE_eq {ns : List EN} {i : Nat} (h : i < ns.length) : ndE ns i = ns[i] := by simp [ndE, h]
def fdE (l : List EF) (i : Nat) : EF := l.getD i ⟨[], [], 0⟩
theorem fds_get {l : List EF} {i : Nat} (h : i < l.length) : (l.map fD).getD i .nilp = .agg [.str (fdE l i).nm, .str (fdE l i).var, i64 (fdE l i).to] := by simp [h, fD, fdE]
theorem ens_get {ns : List EN} {i : Nat} (h : i < ns.length) : (ns.map enD).getD i .nilp = .agg [i64 (ndE ns i).k, i64 (ndE ns i).a, i64 (ndE ns i).b, i64 (ndE ns i).c, i64 (ndE ns i).n, .str (ndE ns i).name, .str (ndE ns i).s, .sl (some 3) ((ndE ns i).l.map fD), i64 (ndE ns i).pos] := by simp [h, enD, efD, ndE]
def namedB (n : EN) : Bool := if n.k = 4 ∨ n.k = 5 ∨ n.k = 7 ∨ n.k = 8 ∨ n.k = 12 then nameB n.name else if n.k = 13 then tagB n.name else n.name.isEmpty
def countedB (n : EN) : Bool :=
  if n.k = 1 then n.s.isEmpty else if n.k = 2 then (decide (n.n = 0) || decide (n.n = 1)) && n.s.isEmpty else if n.k = 10 then decide (1 ≤ n.n) && decide (n.n ≤ 7) && n.s.isEmpty
  else if n.k = 3 then decide (n.n = 0) && decide (n.s.length ≤ 200) else decide (n.n = 0) && n.s.isEmpty
def partB (k : Int) (f : EF) : Bool := if k = 11 then nameB f.nm && f.var.isEmpty else tagB f.nm && nameB f.var
def partedB (n : EN) : Bool :=
  if partsZ n.k then (n.l.all (partB n.k)) && (decide ((if n.k = 14 then 1 else 0) ≤ n.l.length) && decide (n.l.length ≤ 30) && decide ((n.l.map (·.nm)).Nodup)) else n.l.isEmpty
def unusedB (n : EN) : Bool := ([n.a, n.b, n.c].drop (kidN n.k)).all fun x => decide (x = 0)
def rightE (n : EN) : Bool := decide (1 ≤ n.k) && decide (n.k ≤ 14) && decide (0 ≤ n.pos) && decide (n.pos ≤ 1048576) && (namedB n && countedB n && partedB n && unusedB n)
def linkE (ns : List EN) (i : Nat) : Bool := ((kidsE (ndE ns i)).all fun k => decide (0 ≤ k) && decide (k < (i : Int))) && (decide ((ndE ns i).k ≠ 8) || decide ((ndE ns (ndE ns i).a.toNat).k = 5))
def cntE (ns : List EN) (k : Nat) : Nat := (ns.flatMap kidsE).countP fun x => decide (x = (k : Int))
def dep1 (d : List Int) (n : EN) : Int := (kidsE n).foldl (fun m k => max m (d.getD k.toNat 0)) 0 + 1
def depsE : List EN → List Int → List Int
  | [], d => d
  | n :: r, d => depsE r (d ++ [dep1 d n])
def depthE (ns : List EN) : Int := (depsE ns []).getD (ns.length - 1) 0
def okE (ns : List EN) : Bool := (List.range ns.length).all fun i => rightE (ndE ns i) && linkE ns i
def onceE (ns : List EN) : Bool := (List.range (ns.length - 1)).all fun k => decide (cntE ns k = 1)
def mayE (ns : List EN) : Int := if ns.length = 0 ∨ 600 < ns.length then 8 else if okE ns && onceE ns then (if 100 < depthE ns then 6 else 0) else 4
theorem cpy3 : ∀ (m : Nat) (ks : List Int), m ≤ 3 → cpyL [.int .i64 0, .int .i64 0, .int .i64 0] ((ks.take m).map i64) 0 3 = [i64 (if 0 < m then ks.getD 0 0 else 0), i64 (if 1 < m then ks.getD 1 0 else 0), i64 (if 2 < m then ks.getD 2 0 else 0)]
  | 0, _, _ => rfl
  | 1, [], _ => rfl
  | 2, [], _ => rfl
  | 3, [], _ => rfl
  | 1, [x], _ => rfl
  | 2, [x], _ => rfl
  | 3, [x], _ => rfl
  | 1, x :: y :: r, _ => by simp [cpyL, i64]
  | 2, [x, y], _ => rfl
  | 3, [x, y], _ => rfl
  | 2, x :: y :: z :: r, _ => by simp [cpyL, i64]
  | 3, [x, y, z], _ => rfl
  | 3, x :: y :: z :: w :: r, _ => by simp [cpyL, i64]
theorem take_min {α : Type} (k : Nat) (l : List α) (N : Nat) (h : l.length = N) [Decidable ((N : Int) < (k : Int))] : List.take ((if (N : Int) < (k : Int) then (N : Int) else (k : Int)).toNat - 0) l = l.take k := by
  split
  · rw [List.take_of_length_le (by omega), List.take_of_length_le (by omega)]
  · congr 1
theorem f156_nil {G} : HCall Tryz.prog G 156 [.d .nils] [] [] (fun r hp' => r = .vw [0] 0 0 ∧ hp' = [([0], .arr (some 3) [])]) := by
  refine HCall.thaw (Q := fun r hp' => (r = .d .nils ∧ hp' = []) ∨ (r = .vw [0] 0 0 ∧ hp' = [([0], .arr (some 3) [])])) ?_ 0 (some 3) (by simp) ?_
  · refine funO_ok Tryz.func156 rfl (by decide +kernel) (by simp [Tryz.ntmps156]) (veil fun E => ?_)
    simp only [go_sem]
    refine e_nilsl E 3 (some 3) rfl ?_
    refine e_nileq E (e := 177) (by simp only [go_sem]) (by simp only [go_sem]) rfl fun b hb => ?_
    simp only [go_sem]
    refine e_if E (fun h => ?_) (fun h => ?_) <;> simp only [go_sem]
    · refine ⟨_, [], [], id, .inl ⟨rfl, rfl⟩, ?_⟩
      simp only [go_sem]
    · refine ⟨_, _, [0], tau [([0], [7])], .inr ⟨rfl, rfl⟩, ?_⟩
      simp only [go_sem]
  · rintro r hp' (⟨rfl, rfl⟩ | h)
    · exact .inr ⟨rfl, rfl, rfl, rfl⟩
    · exact .inl h
theorem ints_get {ks : List Int} {k : Nat} (h : k < ks.length) : (ks.map i64).getD k .nilp = i64 (ks.getD k 0) := by simp [h]
theorem partE_app (ks : List Int) (o : Nat) : ∀ (a b : List EF) (i : Nat), partE ks o (a ++ b) i = partE ks o a i ++ partE ks o b (i + a.length)
  | [], b, i => by simp [partE]
  | f :: r, b, i => by
    simp only [List.cons_append, partE, partE_app ks o r b (i + 1), List.length_cons]
    rw [show i + 1 + r.length = i + (r.length + 1) by omega]
def partP (ks : List Int) (o : Nat) (l : List EF) (i : Nat) : List EF := partE ks o (l.take i) 0 ++ l.drop i
theorem partP_len (ks : List Int) (o : Nat) (l : List EF) (i : Nat) : (partP ks o l i).length = l.length := by
  simp only [partP, List.length_append, partE_len, List.length_take, List.length_drop]; omega
theorem partP_zero (ks : List Int) (o : Nat) (l : List EF) : partP ks o l 0 = l := by simp [partP, partE]
theorem partP_end (ks : List Int) (o : Nat) (l : List EF) : partP ks o l l.length = partE ks o l 0 := by simp [partP]
theorem partP_step {ks : List Int} {o : Nat} {l : List EF} {i : Nat} (h : i < l.length) : partP ks o l (i + 1) = (partP ks o l i).set i (if o + i < ks.length then { fdE l i with to := ks.getD (o + i) 0 } else fdE l i) := by
  have h1 : l.take (i + 1) = l.take i ++ [l[i]] := by simp
  have h2 : l.drop i = l[i] :: l.drop (i + 1) := List.drop_eq_getElem_cons h
  have hf : fdE l i = l[i] := by simp [fdE, h]
  unfold partP
  rw [h1, partE_app, h2, hf]
  have h3 : (partE ks o (l.take i) 0).length = i := by rw [partE_len, List.length_take]; omega
  rw [List.set_append_right _ _ (by omega), h3, Nat.sub_self]
  simp only [partE, Nat.zero_add, List.length_take, Nat.min_eq_left (Nat.le_of_lt h), List.append_assoc, List.singleton_append, List.set_cons_zero]
theorem partP_get {ks : List Int} {o : Nat} {l : List EF} {i : Nat} (h : i < l.length) : (partP ks o l i)[i]? = some (fdE l i) := by
  have h3 : (partE ks o (l.take i) 0).length = i := by rw [partE_len, List.length_take]; omega
  unfold partP
  rw [List.getElem?_append_right (by omega), h3, Nat.sub_self, List.drop_eq_getElem_cons h]
  simp [fdE, h]
theorem f105_ok {G} (n : EN) (ks : List Int) (hl : n.l.length ≤ 1000000) (hks : ks.length ≤ 1000000) : HP Tryz.prog G 105 [enD n, .sl none (ks.map i64)] (fun r => r = .d (enD (withE n ks))) := by
  unfold enD efD
  refine funZ_ok Tryz.func105 rfl (by decide +kernel) (by simp [Tryz.ntmps105]) (veil fun E => ?_)
  simp only [go_sem]
  refine e_call E (f154_ok n.k) rfl rfl (by simp) ?_
  rintro _ rfl
  simp only [go_sem]
  have hk3 := kidN_le n.k
  refine c_arr E [6] 6 77 [.int .i64 0, .int .i64 0, .int .i64 0] ?_ rfl rfl (by decide) rfl ?_
  · rw [mk_used]; decide
  simp only [go_sem]
  refine region_xvt 8 mixed E (by simp only [List.take_succ_cons, List.take_zero]; exact rfl) (by simp only [List.drop_succ_cons, List.drop_zero]; exact rfl) rfl rfl (by decide +kernel) fun X => ?_
  simp only [go_sem]
  refine ⟨by split <;> constructor <;> omega, by decide +kernel, ?_⟩
  rw [take_min (kidN n.k) (ks.map i64) ks.length (by simp), ← List.map_take]
  refine e_copy E (d := 21) (dT := 95) (e0 := 3) (by simp only [go_sem]) (by rw [ti95]) (by rw [ti3]; decide) rfl rfl rfl ?_
  rw [cpy3 _ _ hk3]
  obtain ⟨a, ha⟩ : ∃ a, a = if 0 < kidN n.k then ks.getD 0 0 else 0 := ⟨_, rfl⟩
  obtain ⟨b, hb⟩ : ∃ b, b = if 1 < kidN n.k then ks.getD 1 0 else 0 := ⟨_, rfl⟩
  obtain ⟨c, hc⟩ : ∃ c, c = if 2 < kidN n.k then ks.getD 2 0 else 0 := ⟨_, rfl⟩
  rw [← ha, ← hb, ← hc]
  simp only [go_sem]
  refine region_xv mixed E fun X => ?_
  simp only [go_sem]
  simp only [List.getD_cons_succ, List.getD_cons_zero]
  simp only [go_sem]
  simp only [List.getD_cons_succ, List.getD_cons_zero]
  simp only [go_sem]
  refine ⟨by decide +kernel, ?_⟩
  refine e_if E (fun hp => ?_) (fun hp => ?_) <;> simp only [go_sem]
  · refine e_callO E [.d .nils] [] [] f156_nil rfl rfl ⟨by simp only [go_sem], by rw [mk_used]; decide⟩ rfl (by simp only [go_sem]) (by simp only [go_sem]) ?_
    rintro _ _ ⟨rfl, rfl⟩
    simp only [go_sem]
    refine loopT_e E (X := Unit) (fun _ => [(1, .d (.sl none (ks.map i64))), (2, .at [2] 0), (4, .at [4] 0), (5, .at [5] 0), (41, .d (i64 0)), (42, .d (i64 0))])
      (fun _ => [([2], .box [.d (i64 n.k), .d (i64 a), .d (i64 b), .d (i64 c), .d (i64 n.n), .d (.str n.name), .d (.str n.s), .vw [37, 0] 0 0, .d (i64 n.pos)]), ([4], .box [.d (i64 0), .d (i64 0), .d (i64 0), .d (i64 0), .d (i64 0), .d (.str []), .d (.str []), .d .nils, .d (i64 0)]), ([5], .box [.d (i64 (kidN n.k)), .d (.bool (partsZ n.k))]), ([37, 0], .arr (some 3) [])]) [2, 4, 5, 37] (fun _ => 0) () id ?_ ?_
    · simp only [go_sem]
      all_goals rfl
    rintro _ E0
    refine hideQ E0 fun Q' hQ E' => ?_
    simp only [go_sem]
    rw [hQ]
    simp only [go_sem]
    refine ⟨[([37, 0], some 3, [])], ?_⟩
    simp only [go_sem]
    have hw : withE n ks = { n with a := a, b := b, c := c, l := [] } := by
      have hp' : partsZ n.k = false := by simpa using hp
      simp [withE, ha, hb, hc, hp']
    rw [hw]
    rfl
  · refine e_callO E [.d (efD n.l)] [] [] (f156_new n.l hl) rfl rfl ⟨by simp only [go_sem], by rw [mk_used]; decide⟩ rfl (by simp only [go_sem]) (by simp only [go_sem]) ?_
    rintro _ _ ⟨rfl, rfl⟩
    simp only [go_sem]
    refine loopT_e E (X := { i : Nat // i ≤ n.l.length }) (fun x => [(1, .d (.sl none (ks.map i64))), (2, .at [2] 0), (4, .at [4] 0), (5, .at [5] 0), (41, .d (i64 n.l.length)), (42, .d (i64 x.1))])
      (fun x => [([2], .box [.d (i64 n.k), .d (i64 a), .d (i64 b), .d (i64 c), .d (i64 n.n), .d (.str n.name), .d (.str n.s), .vw [37, 0] 0 n.l.length, .d (i64 n.pos)]), ([4], .box [.d (i64 0), .d (i64 0), .d (i64 0), .d (i64 0), .d (i64 0), .d (.str []), .d (.str []), .d .nils, .d (i64 0)]), ([5], .box [.d (i64 (kidN n.k)), .d (.bool (partsZ n.k))]), ([37, 0], .arr (some 3) ((partP ks (kidN n.k) n.l x.1).map fD))]) [2, 4, 5, 37] (fun x => n.l.length - x.1) ⟨0, Nat.zero_le _⟩ id ?_ ?_
    · simp only [go_sem]
      all_goals (first | rfl | (rw [partP_zero]))
    rintro ⟨i, hi⟩ E0
    refine hideQ E0 fun Q' hQ E' => ?_
    simp only at hi ⊢
    simp only [go_sem]
    refine e_ifd E' (fun h1 => ?_) (fun h1 => ?_) <;> simp only [go_sem]
    · have h1' : i < n.l.length := by omega
      rw [w64_in ⟨by omega, by omega⟩]
      have hpl := partP_len ks (kidN n.k) n.l i
      have hst := partP_step (ks := ks) (o := kidN n.k) h1'
      refine e_ifd E' (fun h2 => ?_) (fun h2 => ?_) <;> simp only [go_sem]
      · have h2' : kidN n.k + i < ks.length := by omega
        rw [if_pos h2'] at hst
        refine region_xv mixed E' fun X => ?_
        simp only [go_sem]
        refine ⟨⟨by omega, by omega⟩, ?_⟩
        rw [show ((kidN n.k : Nat) + (i : Int)).toNat = kidN n.k + i by omega, ints_get h2']
        simp only [go_sem]
        have hgt : (List.map fD (partP ks (kidN n.k) n.l i)).getD i .nilp = .agg [.str (fdE n.l i).nm, .str (fdE n.l i).var, i64 (fdE n.l i).to] := by
          rw [List.getD_eq_getElem?_getD, List.getElem?_map, partP_get h1']; rfl
        refine ⟨⟨by omega, by omega⟩, ?_⟩
        rw [hgt]
        simp only [go_sem]
        have hmp : (List.map fD (partP ks (kidN n.k) n.l i)).set i (.agg [.str (fdE n.l i).nm, .str (fdE n.l i).var, i64 (ks.getD (kidN n.k + i) 0)]) = (partP ks (kidN n.k) n.l (i + 1)).map fD := by
          rw [hst, List.map_set]; rfl
        rw [hmp]
        refine ⟨by decide +kernel, ?_⟩
        rw [hQ]
        simp only [go_sem]
        refine ⟨⟨i + 1, by omega⟩, by show n.l.length - (i + 1) < _; omega, id, ?_⟩
        rw [w64_in ⟨by omega, by omega⟩]
        simp only [go_sem]
        all_goals rfl
      · have h2' : ¬ kidN n.k + i < ks.length := by omega
        rw [if_neg h2'] at hst
        have hst2 : partP ks (kidN n.k) n.l (i + 1) = partP ks (kidN n.k) n.l i := by
          rw [hst]
          refine List.ext_getElem? fun j => ?_
          rw [List.getElem?_set]
          split
          · rename_i e; subst e
            rw [if_pos (by omega), partP_get h1']
          · rfl
        rw [hQ]
        simp only [go_sem]
        refine ⟨⟨i + 1, by omega⟩, by show n.l.length - (i + 1) < _; omega, id, ?_⟩
        rw [hst2, w64_in ⟨by omega, by omega⟩]
        simp only [go_sem]
        all_goals rfl
    · rw [hQ]
      simp only [go_sem]
      have hi2 : i = n.l.length := by omega
      subst hi2
      rw [partP_end]
      refine ⟨[([37, 0], some 3, (partE ks (kidN n.k) n.l 0).map fD)], ?_⟩
      simp only [go_sem]
      have hw : withE n ks = { n with a := a, b := b, c := c, l := partE ks (kidN n.k) n.l 0 } := by
        have hp' : partsZ n.k = true := by simpa using hp
        simp [withE, ha, hb, hc, hp']
      rw [hw, List.take_of_length_le (by rw [List.length_map, partE_len]; exact Nat.le_refl _)]
end Go.Proofs.YtejpnabbmgpmaaaGreat
