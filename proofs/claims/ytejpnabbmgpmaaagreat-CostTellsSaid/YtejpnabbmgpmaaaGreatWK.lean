/-
  Costs: what the laws hand in. (with the parts that follow it)
-/
import Derived.Test.YtejpnabbmgpmaaaGreatWJ
import Derived.Test.YtejpnabbmgpmaaaGreatWI
import Derived.Test.YtejpnabbmgpmaaaGreatWD
set_option linter.unusedSimpArgs false
namespace Go.Proofs.YtejpnabbmgpmaaaGreat
open Go.Ab
theorem bel_le {ns : List EN} (hk : ∀ i, i < ns.length → (kidsE (ndE ns i)).all (inB i) = true) : ∀ (m i : Nat), i < ns.length → ∀ x ∈ belE ns m i, 0 ≤ x ∧ x ≤ (i : Int)
  | 0, _, _, _, h => by cases h
  | m + 1, i, hi, x, h => by
    rw [mem_bel] at h
    simp only [Int.toNat_natCast] at h
    rcases h with ⟨c, hc, h⟩ | h
    · obtain ⟨h1, h2⟩ := kids_nn hk hi c hc
      obtain ⟨c, rfl⟩ : ∃ k : Nat, c = (k : Int) := ⟨c.toNat, by omega⟩
      have := bel_le hk m c (by omega) x h
      omega
    · omega
theorem bel_par {ns : List EN} (ht : MayT ns) : ∀ (m i : Nat), i < ns.length → ∀ x : Nat, (x : Int) ∈ belE ns m i → x ≠ i → (parE ns).getD x 0 ∈ belE ns m i
  | 0, _, _, _, h, _ => by cases h
  | m + 1, i, hi, x, h, hne => by
    rw [mem_bel] at h ⊢
    simp only [Int.toNat_natCast] at h ⊢
    rcases h with ⟨c, hc, h⟩ | h
    · obtain ⟨h1, h2⟩ := kids_nn (may_kids ht) hi c hc
      obtain ⟨c, rfl⟩ : ∃ k : Nat, c = (k : Int) := ⟨c.toNat, by omega⟩
      by_cases hxc : x = c
      · subst hxc
        exact .inr (par_kid ht hi hc)
      · exact .inl ⟨_, hc, bel_par ht m c (by omega) x h hxc⟩
    · omega
theorem bel_apart {ns : List EN} (ht : MayT ns) {m i c d : Nat} (hi : i < ns.length) (hc : (c : Int) ∈ kidsE (ndE ns i)) (hd : (d : Int) ∈ kidsE (ndE ns i)) (hcd : c ≠ d) : ∀ (f x : Nat), i ≤ x + f → (x : Int) ∈ belE ns m c → (x : Int) ∈ belE ns m d → False
  | f, x, hf, h1, h2 => by
    have hk := may_kids ht
    have hci := (kids_nn hk hi _ hc).2
    have hdi := (kids_nn hk hi _ hd).2
    have hxc := (bel_le hk m c (by omega) _ h1).2
    have hxd := (bel_le hk m d (by omega) _ h2).2
    by_cases e1 : x = c
    · subst e1
      have := bel_par ht m d (by omega) x h2 hcd
      rw [par_kid ht hi hc] at this
      have := (bel_le hk m d (by omega) _ this).2
      omega
    by_cases e2 : x = d
    · subst e2
      have := bel_par ht m c (by omega) x h1 (fun e => hcd e.symm)
      rw [par_kid ht hi hd] at this
      have := (bel_le hk m c (by omega) _ this).2
      omega
    have p1 := bel_par ht m c (by omega) x h1 e1
    have p2 := bel_par ht m d (by omega) x h2 e2
    rcases parE_up ht (k := x) (by omega) with ⟨h3, _⟩ | ⟨j, h3, _, _, h4⟩
    · omega
    · rw [h4] at p1 p2
      cases f with
      | zero => omega
      | succ f => exact bel_apart ht hi hc hd hcd f j (by omega) p1 p2
theorem kids_nodup {ns : List EN} (ht : MayT ns) {i : Nat} (hi : i < ns.length) : (kidsE (ndE ns i)).Nodup := by
  refine List.pairwise_iff_getElem.2 fun a b ha hb hab e => ?_
  have hm := List.getElem_mem ha
  obtain ⟨h1, h2⟩ := kids_nn (may_kids ht) hi _ hm
  have hon := kid_once ht (k := ((kidsE (ndE ns i))[a]).toNat) hi (by omega)
  rw [Int.toNat_of_nonneg h1] at hon
  exact cnt_inj hon hab (List.getElem?_eq_getElem ha) (by rw [List.getElem?_eq_getElem hb, e])
theorem bel_nodup {ns : List EN} (ht : MayT ns) : ∀ (m i : Nat), i < ns.length → (belE ns m i).Nodup
  | 0, _, _ => List.Pairwise.nil
  | m + 1, i, hi => by
    have hk := may_kids ht
    show (((kidsE (ndE ns (i : Int).toNat)).flatMap (belE ns m)) ++ [(i : Int)]).Nodup
    rw [Int.toNat_natCast]
    refine List.pairwise_append.2 ⟨List.pairwise_flatMap.2 ⟨fun c hc => ?_, ?_⟩, List.pairwise_singleton _ _, ?_⟩
    · obtain ⟨h1, h2⟩ := kids_nn hk hi c hc
      obtain ⟨c, rfl⟩ : ∃ k : Nat, c = (k : Int) := ⟨c.toNat, by omega⟩
      exact bel_nodup ht m c (by omega)
    · refine (kids_nodup ht hi).imp_of_mem fun {c d} hc hd hcd x hx y hy e => ?_
      subst e
      obtain ⟨h1, h2⟩ := kids_nn hk hi c hc
      obtain ⟨h3, h4⟩ := kids_nn hk hi d hd
      obtain ⟨c, rfl⟩ : ∃ k : Nat, c = (k : Int) := ⟨c.toNat, by omega⟩
      obtain ⟨d, rfl⟩ : ∃ k : Nat, d = (k : Int) := ⟨d.toNat, by omega⟩
      have hx0 := (bel_le hk m c (by omega) _ hx).1
      obtain ⟨x, rfl⟩ : ∃ k : Nat, x = (k : Int) := ⟨x.toNat, by omega⟩
      exact bel_apart ht hi hc hd (by omega) i x (by omega) hx hy
    · intro x hx y hy e
      rw [List.mem_singleton] at hy
      obtain ⟨c, hc, hxc⟩ := List.mem_flatMap.1 hx
      obtain ⟨h1, h2⟩ := kids_nn hk hi c hc
      obtain ⟨c, rfl⟩ : ∃ k : Nat, c = (k : Int) := ⟨c.toNat, by omega⟩
      have := (bel_le hk m c (by omega) _ hxc).2
      omega
def exSh : List TS := [.sl (some 9) [.int .i64, .int .i64, .int .i64, .int .i64, .int .i64, .str, .str, .sl (some 3) [.str, .str, .int .i64], .int .i64]]
def RwN (x : D) (n : EN) : Prop := ∃ F, x = .agg [i64 n.k, i64 n.a, i64 n.b, i64 n.c, i64 n.n, .str n.name, .str n.s, F, i64 n.pos] ∧ (F = .nils ∧ n.l = [] ∨ F = efD n.l)
def RwL : List D → List EN → Prop
  | [], [] => True
  | x :: xs, n :: ns => RwN x n ∧ RwL xs ns
  | _, _ => False
theorem RwL.len : ∀ {xs : List D} {ns : List EN}, RwL xs ns → xs.length = ns.length
  | [], [], _ => rfl
  | _ :: _, _ :: _, h => by simp [RwL.len h.2]
  | [], _ :: _, h => h.elim
  | _ :: _, [], h => h.elim
theorem RwL.get : ∀ {xs : List D} {ns : List EN}, RwL xs ns → ∀ (i : Nat) x n, xs[i]? = some x → ns[i]? = some n → RwN x n
  | [], _, _, i, x, n, h, _ => by simp at h
  | _ :: _, [], h, _, _, _, _, _ => h.elim
  | x :: xs, n :: ns, h, 0, _, _, h1, h2 => by simp at h1 h2; subst h1; subst h2; exact h.1
  | x :: xs, n :: ns, h, i + 1, y, m, h1, h2 => h.2.get i y m (by simpa using h1) (by simpa using h2)
theorem okW_en (n : EN) : okW (some 9) (enD n) := ⟨rfl, by simp [efD, D.scal]⟩
theorem ex_wk {xs : List D} {ns : List EN} (h : RwL xs ns) : Wk (.agg [.sl (some 9) xs]) (exD ns) := by
  refine Wk.agg rfl (by simp [D.scal]) fun i a b ha hb => ?_
  match i, ha, hb with
  | 0, ha, hb =>
    cases ha; cases hb
    refine Wk.sl (by simp [h.len]) (fun b hb => by obtain ⟨n, _, rfl⟩ := List.mem_map.1 hb; exact okW_en n) fun i a b ha hb => ?_
    rw [List.getElem?_map, Option.map_eq_some_iff] at hb
    obtain ⟨n, hn, rfl⟩ := hb
    obtain ⟨F, rfl, hF⟩ := h.get i a n ha hn
    refine ⟨rfl, fun j c d hc hd => ?_⟩
    match j, hc, hd with
    | 0, hc, hd | 1, hc, hd | 2, hc, hd | 3, hc, hd | 4, hc, hd | 5, hc, hd | 6, hc, hd | 8, hc, hd => cases hc; cases hd; exact .refl _
    | 7, hc, hd =>
      cases hc; cases hd
      rcases hF with ⟨rfl, hF⟩ | rfl
      · rw [hF]; exact .nils _
      · exact .refl _
theorem maxLen_le : maxLen ≤ 9223372036854775807 := by unfold maxLen; omega
theorem fds_in : ∀ {xs : List D}, (∀ x ∈ xs, okW (some 3) x ∧ oks [.str, .str, .int .i64] x.cells) → ∃ l : List EF, xs = l.map fD ∧ ∀ f ∈ l, f.nm.length ≤ maxLen ∧ f.var.length ≤ maxLen
  | [], _ => ⟨[], rfl, by simp⟩
  | x :: xs, h => by
    obtain ⟨l, hl, hf⟩ := fds_in fun y hy => h y (List.mem_cons_of_mem _ hy)
    obtain ⟨h1, h2⟩ := h x List.mem_cons_self
    cases x with
    | agg cs =>
      have h2 : oks [.str, .str, .int .i64] cs := h2
      match cs, h2 with
      | [.str s, .str v, .int k n], h2 =>
        obtain ⟨g1, g2, g3, _⟩ := h2
        obtain rfl : k = .i64 := g3.1
        exact ⟨⟨s, v, n⟩ :: l, by rw [hl]; rfl, fun f hf' => by
          rcases List.mem_cons.1 hf' with rfl | hf'
          · exact ⟨g1, g2⟩
          · exact hf f hf'⟩
    | _ => simp [okW] at h1
def InN (n : EN) : Prop := n.name.length ≤ maxLen ∧ n.s.length ≤ maxLen ∧ n.l.length ≤ maxLen ∧ ∀ f ∈ n.l, f.nm.length ≤ maxLen ∧ f.var.length ≤ maxLen
theorem en_in {x : D} (h1 : okW (some 9) x) (h2 : oks [.int .i64, .int .i64, .int .i64, .int .i64, .int .i64, .str, .str, .sl (some 3) [.str, .str, .int .i64], .int .i64] x.cells) : ∃ n, RwN x n ∧ InN n := by
  cases x with
  | agg cs =>
    have h2 : oks [.int .i64, .int .i64, .int .i64, .int .i64, .int .i64, .str, .str, .sl (some 3) [.str, .str, .int .i64], .int .i64] cs := h2
    match cs, h2 with
    | [.int k1 a, .int k2 b, .int k3 c, .int k4 d, .int k5 e, .str s, .str t, F, .int k6 p], h2 =>
      obtain ⟨g1, g2, g3, g4, g5, g6, g7, g8, g9, _⟩ := h2
      obtain rfl : k1 = .i64 := g1.1
      obtain rfl : k2 = .i64 := g2.1
      obtain rfl : k3 = .i64 := g3.1
      obtain rfl : k4 = .i64 := g4.1
      obtain rfl : k5 = .i64 := g5.1
      obtain rfl : k6 = .i64 := g9.1
      cases F with
      | nils => exact ⟨⟨a, b, c, d, e, s, t, [], p⟩, ⟨.nils, rfl, .inl ⟨rfl, rfl⟩⟩, g6, g7, by simp, by simp⟩
      | sl w xs =>
        obtain ⟨rfl, g10, g11⟩ := g8
        obtain ⟨l, rfl, hl⟩ := fds_in g11
        exact ⟨⟨a, b, c, d, e, s, t, l, p⟩, ⟨_, rfl, .inr rfl⟩, g6, g7, by simpa using g10, hl⟩
      | _ => exact g8.elim
  | _ => simp [okW] at h1
theorem ens_in : ∀ {xs : List D}, (∀ x ∈ xs, okW (some 9) x ∧ oks [.int .i64, .int .i64, .int .i64, .int .i64, .int .i64, .str, .str, .sl (some 3) [.str, .str, .int .i64], .int .i64] x.cells) → ∃ ns, RwL xs ns ∧ ∀ n ∈ ns, InN n
  | [], _ => ⟨[], trivial, by simp⟩
  | x :: xs, h => by
    obtain ⟨ns, h1, h2⟩ := ens_in fun y hy => h y (List.mem_cons_of_mem _ hy)
    obtain ⟨g1, g2⟩ := h x List.mem_cons_self
    obtain ⟨n, k1, k2⟩ := en_in g1 g2
    exact ⟨n :: ns, ⟨k1, h1⟩, fun m hm => by
      rcases List.mem_cons.1 hm with rfl | hm
      · exact k2
      · exact h2 m hm⟩
theorem ex_in {ds : List D} (h : oks exSh ds) : ∃ ns, Wk (.agg ds) (exD ns) ∧ ns.length ≤ maxLen ∧ ∀ n ∈ ns, InN n := by
  match ds, h with
  | [L], h =>
    obtain ⟨h1, _⟩ := h
    cases L with
    | nils =>
      refine ⟨[], Wk.agg rfl (by simp [D.scal]) fun i a b ha hb => ?_, by simp, by simp⟩
      match i, ha, hb with
      | 0, ha, hb => cases ha; cases hb; exact .nils _
    | sl w xs =>
      obtain ⟨rfl, g1, g2⟩ := h1
      obtain ⟨ns, k1, k2⟩ := ens_in g2
      exact ⟨ns, ex_wk k1, by rw [← k1.len]; exact g1, k2⟩
    | _ => exact h1.elim
theorem few_len (ns : List EN) : (fewE ns).length ≤ 700 := by
  unfold fewE
  rw [List.length_map, List.length_take]
  omega
def InF (ns : List EN) : Prop := ns.length ≤ 700 ∧ ∀ n ∈ ns, SaneN BIG n ∧ n.l.length ≤ 60
theorem few_in {ns : List EN} (h : ∀ n ∈ ns, InN n) : InF (fewE ns) := by
  refine ⟨few_len ns, fun n hn => ?_⟩
  unfold fewE at hn
  obtain ⟨m, hm, rfl⟩ := List.mem_map.1 hn
  obtain ⟨h1, h2, h3, h4⟩ := h m (List.mem_of_mem_take hm)
  have hx := maxLen_le
  have hl : (fewN m).l.length ≤ 60 := by unfold fewN; simp only [List.length_take]; omega
  exact ⟨⟨by show m.name.length ≤ 9223372036854775807; omega, by show m.s.length ≤ 9223372036854775807; omega, by omega, fun f hf => by
    have := h4 f (List.mem_of_mem_take hf)
    exact ⟨by show f.nm.length ≤ 9223372036854775807; omega, by show f.var.length ≤ 9223372036854775807; omega⟩⟩, hl⟩
theorem few_few (ns : List EN) : fewE (fewE ns) = fewE ns := by
  unfold fewE
  rw [List.take_of_length_le (by rw [List.length_map, List.length_take]; omega), List.map_map]
  refine List.map_congr_left fun n _ => ?_
  simp [fewN, List.take_take]
theorem f19_again {G} {ns : List EN} (h : InF ns) (hf : fewE ns = ns) : HP Tryz.prog G 19 [exD ns] (fun r => r = .d (exD ns)) := by
  have := f19_ok (G := G) ns (by have := h.1; omega) (fun n hn => by have := (h.2 n hn).2; omega)
  rwa [hf] at this
def wsD (ns : List EN) (B : List Bi) (ws : List Int) : D := .agg [.sl (some 9) (ns.map enD), .sl (some 2) (B.map bD), .sl none (ws.map i64)]
theorem f229_of {G} {ns : List EN} {B : List Bi} {ws : List Int} {k x : Int} {b : Bool} (h : HP Tryz.prog G 161 [.ptr (wsD ns B ws), i64 k, i64 x] (fun r => r = .d (.bool b))) :
    HP Tryz.prog G 229 [i64 k, .ptr (.ptr (wsD ns B ws)), .ptr (i64 x)] (fun r => r = .d (.bool b)) := by
  unfold wsD at *
  refine funP_ok Tryz.func229 rfl (by decide +kernel) (by simp [Tryz.ntmps229]) (veil fun E => ?_)
  simp only [go_sem]
  refine e_call E h rfl rfl (by simp) ?_
  rintro _ rfl
  simp only [go_sem]
set_option maxHeartbeats 1000000 in
theorem f161_ok {G} (ns : List EN) (B : List Bi) (ws : List Int) (hs : ∀ n ∈ ns, n.l.length ≤ 900000) (hk : ∀ i, i < ns.length → (kidsE (ndE ns i)).all (inB i) = true) (x : Int) :
    ∀ (m i : Nat), i < m → i < ns.length → HP Tryz.prog G 161 [.ptr (wsD ns B ws), i64 (i : Int), i64 x] (fun r => r = .d (.bool (withinE ns m i x)))
  | 0, _, h, _ => absurd h (Nat.not_lt_zero _)
  | m + 1, i, him, hi => by
    have ih := f161_ok (G := G) ns B ws hs hk x m
    have hg := ens_get hi
    have hsi := hs _ (by rw [ndE_eq hi]; exact List.getElem_mem hi : ndE ns i ∈ ns)
    have hkn := kids_nn hk hi
    have hw : withinE ns (m + 1) i x = (decide ((i : Int) = x) || (kidsE (ndE ns i)).any (fun k => withinE ns m k x)) := rfl
    obtain ⟨n, hne⟩ : ∃ n, n = ndE ns i := ⟨_, rfl⟩
    rw [← hne] at hg hsi hkn hw
    have hkc := f104_new (G := G) n (by omega)
    have hcf := f60_ok (G := G) (kidsE n) (fun k => withinE ns m k x) 229 [.ptr (.ptr (wsD ns B ws)), .ptr (i64 x)] (by rw [kidsE_len]; unfold wideE; have := kidN_le n.k; split <;> omega) (fun k hkm => by
      obtain ⟨h1, h2⟩ := hkn k hkm
      obtain ⟨k, rfl⟩ : ∃ q : Nat, k = (q : Int) := ⟨k.toNat, by omega⟩
      exact f229_of (ih k (by omega) (by omega)))
    generalize hR : withinE ns (m + 1) i x = R at hw ⊢
    obtain ⟨K, hK⟩ : ∃ K, K = kidsE n := ⟨_, rfl⟩
    rw [← hK] at hkc hcf hw
    obtain ⟨b, hb⟩ : ∃ b, b = K.any (fun k => withinE ns m k x) := ⟨_, rfl⟩
    rw [← hb] at hcf hw
    unfold wsD at hcf ⊢
    refine funZ_ok Tryz.func161 rfl (by decide +kernel) (by simp [Tryz.ntmps161]) (veil fun E => ?_)
    simp only [go_sem]
    refine e_ifd E (fun g1 => ?_) (fun g1 => ?_) <;> simp only [go_sem]
    · rw [hw, decide_eq_true g1, Bool.true_or]
      refine ⟨[], ?_⟩
      simp only [go_sem]
    rw [decide_eq_false g1, Bool.false_or] at hw
    refine e_nild E (by simp only [go_sem]) rfl ?_
    simp only [go_sem]
    refine ⟨⟨by omega, by omega⟩, ?_⟩
    rw [hg]
    simp only [go_sem]
    refine e_callO E [.d (enD n)] [] [] hkc rfl rfl ⟨by simp only [go_sem], by rw [mk_used]; decide⟩ rfl (by simp only [go_sem]) (by simp only [go_sem]) ?_
    rintro _ _ ⟨rfl, rfl⟩
    simp only [go_sem]
    refine e_frzA E [18, 0] none (K.map i64) rfl (by simp only [go_sem]; rfl) ?_
    simp only [go_sem]
    refine e_frB E [3] (.ptr (.agg [.sl (some 9) (ns.map enD), .sl (some 2) (B.map bD), .sl none (ws.map i64)])) rfl rfl ?_
    simp only [go_sem]
    refine e_frB E [5] (i64 x) rfl rfl ?_
    simp only [go_sem]
    refine e_call E hcf rfl rfl (by simp) ?_
    rintro _ rfl
    simp only [go_sem]
    rw [← hw]
    refine ⟨[], ?_⟩
    simp only [go_sem]
theorem fm_congr {α β : Type} {f g : α → List β} : ∀ {l : List α}, (∀ a ∈ l, f a = g a) → l.flatMap f = l.flatMap g
  | [], _ => rfl
  | x :: r, h => by rw [List.flatMap_cons, List.flatMap_cons, h x List.mem_cons_self, fm_congr (fun a ha => h a (List.mem_cons_of_mem _ ha))]
theorem bel_fuel {ns : List EN} (hk : ∀ i, i < ns.length → (kidsE (ndE ns i)).all (inB i) = true) : ∀ (m m' i : Nat), i < m → i < m' → i < ns.length → belE ns m i = belE ns m' i
  | 0, _, _, h, _, _ => absurd h (Nat.not_lt_zero _)
  | _ + 1, 0, _, _, h, _ => absurd h (Nat.not_lt_zero _)
  | m + 1, m' + 1, i, h1, h2, hi => by
    show (kidsE (ndE ns (i : Int).toNat)).flatMap (belE ns m) ++ [(i : Int)] = (kidsE (ndE ns (i : Int).toNat)).flatMap (belE ns m') ++ [(i : Int)]
    rw [Int.toNat_natCast, fm_congr (fun c hc => ?_)]
    obtain ⟨h3, h4⟩ := kids_nn hk hi c hc
    obtain ⟨c, rfl⟩ : ∃ k : Nat, c = (k : Int) := ⟨c.toNat, by omega⟩
    exact bel_fuel hk m m' c (by omega) (by omega) (by omega)
theorem bel_part {ns : List EN} (hk : ∀ i, i < ns.length → (kidsE (ndE ns i)).all (inB i) = true) : ∀ (m i : Nat), i < m → i < ns.length → ∀ j : Nat, (j : Int) ∈ belE ns m i → ∃ p s, belE ns m i = p ++ (belE ns m j ++ s)
  | 0, _, h, _, _, _ => absurd h (Nat.not_lt_zero _)
  | m + 1, i, him, hi, j, hj => by
    by_cases hij : j = i
    · subst hij
      exact ⟨[], [], by simp⟩
    rw [mem_bel] at hj
    simp only [Int.toNat_natCast] at hj
    rcases hj with ⟨c, hc, hjc⟩ | hj
    · obtain ⟨h1, h2⟩ := kids_nn hk hi c hc
      obtain ⟨c, rfl⟩ : ∃ k : Nat, c = (k : Int) := ⟨c.toNat, by omega⟩
      have hjl := (bel_le hk m c (by omega) _ hjc).2
      obtain ⟨p, s, hps⟩ := bel_part hk m c (by omega) (by omega) j hjc
      obtain ⟨K1, K2, hK⟩ := List.append_of_mem hc
      refine ⟨K1.flatMap (belE ns m) ++ p, s ++ (K2.flatMap (belE ns m) ++ [(i : Int)]), ?_⟩
      show (kidsE (ndE ns (i : Int).toNat)).flatMap (belE ns m) ++ [(i : Int)] = _
      rw [Int.toNat_natCast, hK, List.flatMap_append, List.flatMap_cons, hps, bel_fuel hk (m + 1) m j (by omega) (by omega) (by omega)]
      simp only [List.append_assoc]
    · omega
theorem within_bel {ns : List EN} (hk : ∀ i, i < ns.length → (kidsE (ndE ns i)).all (inB i) = true) (x : Int) : ∀ (m i : Nat), i < m → i < ns.length → (withinE ns m i x = true ↔ x ∈ belE ns m i)
  | 0, _, h, _ => absurd h (Nat.not_lt_zero _)
  | m + 1, i, him, hi => by
    rw [mem_bel]
    unfold withinE
    simp only [Int.toNat_natCast, Bool.or_eq_true, decide_eq_true_eq, List.any_eq_true]
    constructor
    · rintro (h | ⟨c, hc, h⟩)
      · exact .inr h.symm
      · obtain ⟨h1, h2⟩ := kids_nn hk hi c hc
        obtain ⟨c, rfl⟩ : ∃ k : Nat, c = (k : Int) := ⟨c.toNat, by omega⟩
        exact .inl ⟨_, hc, (within_bel hk x m c (by omega) (by omega)).1 h⟩
    · rintro (⟨c, hc, h⟩ | h)
      · obtain ⟨h1, h2⟩ := kids_nn hk hi c hc
        obtain ⟨c, rfl⟩ : ∃ k : Nat, c = (k : Int) := ⟨c.toNat, by omega⟩
        exact .inr ⟨_, hc, (within_bel hk x m c (by omega) (by omega)).2 h⟩
      · exact .inl h.symm
def rkE (ns : List EN) (i : Nat) : Nat := (belE ns ns.length ((ns.length - 1 : Nat) : Int)).idxOf (i : Int)
theorem idx_lt {l P Q : List Int} {u v : Int} (hl : l = P ++ Q) (hn : l.Nodup) (hu : u ∈ P) (hv : v ∈ Q) : l.idxOf u < l.idxOf v := by
  subst hl
  have hvP : v ∉ P := fun h => (List.nodup_append.1 hn).2.2 v h v hv rfl
  rw [List.idxOf_append, List.idxOf_append, if_pos hu, if_neg hvP]
  have := List.idxOf_lt_length_of_mem hu
  omega
theorem rk_kid {ns : List EN} (ht : MayT ns) {i k : Nat} (hi : i < ns.length) (hk : (k : Int) ∈ kidsE (ndE ns i)) : rkE ns k < rkE ns i := by
  have hkk := may_kids ht
  have hp := ht.pos
  obtain ⟨p, s, h⟩ := bel_part hkk ns.length (ns.length - 1) (by omega) (by omega) i (bel_all ht _ i (Nat.le_refl _) hi)
  have hnd := bel_nodup ht ns.length (ns.length - 1) (by omega)
  obtain ⟨m, hm⟩ : ∃ m, ns.length = m + 1 := ⟨ns.length - 1, by omega⟩
  have hb : belE ns ns.length i = (kidsE (ndE ns i)).flatMap (belE ns m) ++ [(i : Int)] := by
    rw [hm]
    show (kidsE (ndE ns (i : Int).toNat)).flatMap (belE ns m) ++ [(i : Int)] = _
    rw [Int.toNat_natCast]
  unfold rkE
  refine idx_lt (P := p ++ (kidsE (ndE ns i)).flatMap (belE ns m)) (Q := [(i : Int)] ++ s) (by rw [h, hb]; simp only [List.append_assoc]) hnd (List.mem_append_right _ (List.mem_flatMap.2 ⟨_, hk, ?_⟩)) (List.mem_append_left _ (List.mem_singleton_self _))
  obtain ⟨h1, h2⟩ := kids_nn hkk hi _ hk
  obtain ⟨m', hm'⟩ : ∃ m', m = m' + 1 := ⟨m - 1, by omega⟩
  rw [hm']
  exact mem_bel.2 (.inr rfl)
theorem rk_two {ns : List EN} (ht : MayT ns) {i x a : Nat} {b : Int} (hx : x < ns.length) (hab : kidsE (ndE ns x) = [(a : Int), b]) (hix : (i : Int) ∈ belE ns ns.length x) (_hne : i ≠ x) (hia : (i : Int) ∉ belE ns ns.length a) : rkE ns a < rkE ns i := by
  have hkk := may_kids ht
  have hp := ht.pos
  obtain ⟨p, s, h⟩ := bel_part hkk ns.length (ns.length - 1) (by omega) (by omega) x (bel_all ht _ x (Nat.le_refl _) hx)
  have hnd := bel_nodup ht ns.length (ns.length - 1) (by omega)
  obtain ⟨m, hm⟩ : ∃ m, ns.length = m + 1 := ⟨ns.length - 1, by omega⟩
  obtain ⟨h1, h2⟩ := kids_nn hkk hx (a : Int) (by rw [hab]; exact List.mem_cons_self)
  have hb : belE ns ns.length x = belE ns m a ++ (belE ns m b ++ [(x : Int)]) := by
    rw [hm]
    show (kidsE (ndE ns (x : Int).toNat)).flatMap (belE ns m) ++ [(x : Int)] = _
    rw [Int.toNat_natCast, hab]
    simp
  rw [bel_fuel hkk ns.length m a (by omega) (by omega) (by omega)] at hia
  have hin : (i : Int) ∈ belE ns m b ++ [(x : Int)] := by
    rw [hb] at hix
    exact (List.mem_append.1 hix).resolve_left hia
  unfold rkE
  refine idx_lt (P := p ++ belE ns m a) (Q := (belE ns m b ++ [(x : Int)]) ++ s) (by rw [h, hb]; simp only [List.append_assoc]) hnd (List.mem_append_right _ ?_) (List.mem_append_left _ hin)
  obtain ⟨m', hm'⟩ : ∃ m', m = m' + 1 := ⟨m - 1, by omega⟩
  rw [hm']
  exact mem_bel.2 (.inr rfl)
theorem climb_bel {ns : List EN} (ht : MayT ns) {nm : List UInt8} : ∀ (m c : Nat), c < ns.length → 0 ≤ (climb ns (parE ns) nm m c ((parE ns).getD c 0)).1 → ∃ x : Nat, (climb ns (parE ns) nm m c ((parE ns).getD c 0)).1 = (x : Int) ∧ x < ns.length ∧ (c : Int) ∈ belE ns ns.length x
  | 0, _, _, h => absurd h (by show ¬ (0 : Int) ≤ noB.1; decide)
  | m + 1, c, hc, h => by
    unfold climb at h ⊢
    rcases parE_up ht hc with ⟨_, h2⟩ | ⟨j, h1, h2, h3, h4⟩
    · rw [h2, if_pos (by decide)] at h
      exact absurd h (by decide)
    rw [h4] at h ⊢
    rw [if_neg (by omega)] at h ⊢
    simp only [Int.toNat_natCast] at h ⊢
    obtain ⟨n, hn⟩ : ∃ n, ns.length = n + 1 := ⟨ns.length - 1, by omega⟩
    split
    · refine ⟨j, rfl, h2, ?_⟩
      rw [hn]
      refine mem_bel.2 (.inl ⟨(c : Int), by rw [Int.toNat_natCast]; exact h3, ?_⟩)
      obtain ⟨n', hn'⟩ : ∃ n', n = n' + 1 := ⟨n - 1, by omega⟩
      rw [hn']
      exact mem_bel.2 (.inr rfl)
    · rename_i hb
      rw [if_neg hb] at h
      obtain ⟨x, hx1, hx2, hx3⟩ := climb_bel ht m j h2 h
      exact ⟨x, hx1, hx2, bel_down (may_kids ht) h3 _ _ hx2 hx2 hx3⟩
def defA (ns : List EN) (i : Nat) : Option Int :=
  if 0 ≤ (refB ns i).1 ∧ ((ndE ns (refB ns i).1.toNat).k = 7 ∨ (ndE ns (refB ns i).1.toNat).k = 8) ∧ withinE ns ns.length (ndE ns (refB ns i).1.toNat).a i = false then some (ndE ns (refB ns i).1.toNat).a else none
theorem rk_def {ns : List EN} (ht : MayT ns) {i : Nat} {a : Int} (hi : i < ns.length) (h : defA ns i = some a) : 0 ≤ a ∧ a < (ns.length : Int) ∧ rkE ns a.toNat < rkE ns i := by
  unfold defA at h
  split at h
  · rename_i hc
    obtain ⟨h1, h2, h3⟩ := hc
    have h4 : (ndE ns i).k = 4 := by
      refine Classical.byContradiction fun e => ?_
      unfold refB at h1
      rw [if_neg e] at h1
      exact absurd h1 (by decide)
    have hb : refB ns i = climb ns (parE ns) (ndE ns i).name ns.length i ((parE ns).getD i 0) := by unfold refB; rw [if_pos h4]
    rw [hb] at h1
    obtain ⟨x, hx1, hx2, hx3⟩ := climb_bel ht ns.length i hi h1
    rw [hb, hx1] at h2 h3 h
    simp only [Int.toNat_natCast] at h2 h3 h
    have hke : kidsE (ndE ns x) = [(ndE ns x).a, (ndE ns x).b] := by
      rcases h2 with h2 | h2 <;> simp [kidsE, h2, kidN, partsZ]
    have ha := Option.some.inj h
    rw [ha] at hke h3
    obtain ⟨g1, g2⟩ := kids_nn (may_kids ht) hx2 a (by rw [hke]; exact List.mem_cons_self)
    obtain ⟨a, rfl⟩ : ∃ k : Nat, a = (k : Int) := ⟨a.toNat, by omega⟩
    refine ⟨g1, by omega, rk_two ht hx2 hke hx3 (fun e => ?_) (fun e => ?_)⟩
    · rw [e] at h4
      omega
    · have := (within_bel (may_kids ht) (i : Int) ns.length a (by omega) (by omega)).2 e
      rw [h3] at this
      cases this
  · cases h
def wdE (ns : List EN) : Nat → Int → Int
  | 0, _ => 0
  | m + 1, i => min ((kidsE (ndE ns i.toNat)).foldl (fun n k => min (n + wdE ns m k) 1000000) (match defA ns i.toNat with
    | some a => 1 + wdE ns m a
    | none => 1)) 1000000
def wdK (f : List Int → Int → Int × List Int) (p : Int × List Int) (k : Int) : Int × List Int := (min (p.1 + (f p.2 k).1) 1000000, (f p.2 k).2)
def wd0 (ns : List EN) (f : List Int → Int → Int × List Int) (ws : List Int) (i : Nat) : Int × List Int := match defA ns i with
  | some a => (1 + (f ws a).1, (f ws a).2)
  | none => (1, ws)
def wdM (z : Int) (ns : List EN) : Nat → List Int → Int → Int × List Int
  | 0, ws, _ => (0, ws)
  | m + 1, ws, i => if z < ws.getD i.toNat 0 then (ws.getD i.toNat 0, ws) else
    (min ((kidsE (ndE ns i.toNat)).foldl (wdK (wdM z ns m)) (wd0 ns (wdM z ns m) ws i.toNat)).1 1000000,
      ((kidsE (ndE ns i.toNat)).foldl (wdK (wdM z ns m)) (wd0 ns (wdM z ns m) ws i.toNat)).2.set i.toNat (min ((kidsE (ndE ns i.toNat)).foldl (wdK (wdM z ns m)) (wd0 ns (wdM z ns m) ws i.toNat)).1 1000000))
def Wb (ws : List Int) : Prop := ∀ x ∈ ws, -1 ≤ x ∧ x ≤ 1000000
theorem Wb.get {ws : List Int} (h : Wb ws) (k : Nat) : -1 ≤ ws.getD k 0 ∧ ws.getD k 0 ≤ 1000000 := by
  rw [List.getD_eq_getElem?_getD]
  cases hc : ws[k]? with
  | none => simp
  | some x => exact h x (List.mem_of_getElem? hc)
theorem Wb.set {ws : List Int} (h : Wb ws) (k : Nat) {x : Int} (h0 : -1 ≤ x) (h1 : x ≤ 1000000) : Wb (ws.set k x) := fun y hy => by
  rcases List.mem_or_eq_of_mem_set hy with h2 | h2
  · exact h y h2
  · rw [h2]; exact ⟨h0, h1⟩
def WF (n : Nat) (f : List Int → Int → Int × List Int) : Prop := ∀ ws k, ws.length = n → Wb ws → 0 ≤ (f ws k).1 ∧ (f ws k).1 ≤ 1000000 ∧ (f ws k).2.length = n ∧ Wb (f ws k).2
theorem wdK_fold {n : Nat} {f : List Int → Int → Int × List Int} (hf : WF n f) : ∀ (l : List Int) (p : Int × List Int), 0 ≤ p.1 ∧ p.1 ≤ 1000001 ∧ p.2.length = n ∧ Wb p.2 → 0 ≤ (l.foldl (wdK f) p).1 ∧ (l.foldl (wdK f) p).1 ≤ 1000001 ∧ (l.foldl (wdK f) p).2.length = n ∧ Wb (l.foldl (wdK f) p).2
  | [], _, h => h
  | x :: r, p, h => by
    obtain ⟨h1, h2, h3, h4⟩ := hf p.2 x h.2.2.1 h.2.2.2
    refine wdK_fold hf r (wdK f p x) ⟨?_, ?_, h3, h4⟩
    · show 0 ≤ min (p.1 + (f p.2 x).1) 1000000
      omega
    · show min (p.1 + (f p.2 x).1) 1000000 ≤ 1000001
      omega
theorem wd0_ok {n : Nat} {f : List Int → Int → Int × List Int} (hf : WF n f) (ns : List EN) {ws : List Int} (i : Nat) (hl : ws.length = n) (hw : Wb ws) : 0 ≤ (wd0 ns f ws i).1 ∧ (wd0 ns f ws i).1 ≤ 1000001 ∧ (wd0 ns f ws i).2.length = n ∧ Wb (wd0 ns f ws i).2 := by
  unfold wd0
  cases defA ns i with
  | none => exact ⟨by show (0 : Int) ≤ 1; omega, by show (1 : Int) ≤ 1000001; omega, hl, hw⟩
  | some a =>
    obtain ⟨h1, h2, h3, h4⟩ := hf ws a hl hw
    exact ⟨by show 0 ≤ 1 + (f ws a).1; omega, by show 1 + (f ws a).1 ≤ 1000001; omega, h3, h4⟩
theorem wdM_ok {z : Int} (hz : -1 ≤ z) (ns : List EN) (n : Nat) : ∀ m, WF n (wdM z ns m)
  | 0 => fun ws k hl hw => ⟨by show (0 : Int) ≤ 0; omega, by show (0 : Int) ≤ 1000000; omega, hl, hw⟩
  | m + 1 => fun ws k hl hw => by
    unfold wdM
    split
    · have := hw.get k.toNat
      exact ⟨by show 0 ≤ ws.getD k.toNat 0; omega, this.2, hl, hw⟩
    · obtain ⟨h1, h2, h3, h4⟩ := wdK_fold (wdM_ok hz ns n m) (kidsE (ndE ns k.toNat)) _ (wd0_ok (wdM_ok hz ns n m) ns k.toNat hl hw)
      generalize (kidsE (ndE ns k.toNat)).foldl (wdK (wdM z ns m)) (wd0 ns (wdM z ns m) ws k.toNat) = p at *
      exact ⟨by show 0 ≤ min p.1 1000000; omega, by show min p.1 1000000 ≤ 1000000; omega, by show (p.2.set _ _).length = n; rw [List.length_set, h3], h4.set _ (by omega) (by omega)⟩
theorem foldl_congr' {α β : Type} {f g : β → α → β} : ∀ {l : List α}, (∀ a ∈ l, ∀ b, f b a = g b a) → ∀ b, l.foldl f b = l.foldl g b
  | [], _, _ => rfl
  | x :: r, h, b => by rw [List.foldl_cons, List.foldl_cons, h x List.mem_cons_self, foldl_congr' fun a ha => h a (List.mem_cons_of_mem _ ha)]
theorem wd_fuel {ns : List EN} (ht : MayT ns) : ∀ (m m' i : Nat), i < ns.length → rkE ns i < m → rkE ns i < m' → wdE ns m i = wdE ns m' i
  | 0, _, _, _, h, _ => absurd h (Nat.not_lt_zero _)
  | _ + 1, 0, _, _, _, h => absurd h (Nat.not_lt_zero _)
  | m + 1, m' + 1, i, hi, h1, h2 => by
    have hd : ∀ a : Int, 0 ≤ a ∧ a < (ns.length : Int) ∧ rkE ns a.toNat < rkE ns i → wdE ns m a = wdE ns m' a := fun a ⟨g1, g2, g3⟩ => by
      obtain ⟨a, rfl⟩ : ∃ k : Nat, a = (k : Int) := ⟨a.toNat, by omega⟩
      rw [Int.toNat_natCast] at g3
      exact wd_fuel ht m m' a (by omega) (by omega) (by omega)
    unfold wdE
    rw [Int.toNat_natCast]
    have e : (match defA ns i with
      | some a => 1 + wdE ns m a
      | none => 1) = (match defA ns i with
      | some a => 1 + wdE ns m' a
      | none => 1) := by
      cases hda : defA ns i with
      | none => rfl
      | some a =>
        simp only
        rw [hd a (rk_def ht hi hda)]
    rw [e, foldl_congr' (fun k hk b => ?_)]
    obtain ⟨g1, g2⟩ := kids_nn (may_kids ht) hi k hk
    rw [hd k ⟨g1, by omega, rk_kid ht hi (by rw [Int.toNat_of_nonneg g1]; exact hk)⟩]
def wvE (ns : List EN) (i : Nat) : Int := wdE ns (rkE ns i + 1) i
theorem wd_pos (ns : List EN) : ∀ (m : Nat) (i : Int), 0 ≤ wdE ns m i ∧ wdE ns m i ≤ 1000000 ∧ (0 < m → 1 ≤ wdE ns m i)
  | 0, _ => ⟨by show (0 : Int) ≤ 0; omega, by show (0 : Int) ≤ 1000000; omega, fun h => absurd h (Nat.not_lt_zero _)⟩
  | m + 1, i => by
    have ih := wd_pos ns m
    have h0 : 1 ≤ (match defA ns i.toNat with
      | some a => 1 + wdE ns m a
      | none => 1) := by
      cases defA ns i.toNat with
      | none => exact Int.le_refl _
      | some a => have := (ih a).1; show 1 ≤ 1 + wdE ns m a; omega
    have hf : ∀ (l : List Int) (b : Int), 1 ≤ b → 1 ≤ l.foldl (fun n k => min (n + wdE ns m k) 1000000) b := by
      intro l
      induction l with
      | nil => exact fun b h => h
      | cons x r ihl =>
        intro b hb
        have := (ih x).1
        exact ihl _ (by show 1 ≤ min (b + wdE ns m x) 1000000; omega)
    have h1 := hf (kidsE (ndE ns i.toNat)) _ h0
    unfold wdE
    generalize (kidsE (ndE ns i.toNat)).foldl (fun n k => min (n + wdE ns m k) 1000000) _ = q at *
    exact ⟨by omega, by omega, fun _ => by omega⟩
def Kn (z : Int) (ns : List EN) (ws : List Int) : Prop := ws.length = ns.length ∧ ∀ j, j < ns.length → ws.getD j 0 = z ∨ ws.getD j 0 = wvE ns j
theorem wdK_law {z : Int} {ns : List EN} {m : Nat} {v : Int → Int} : ∀ (l : List Int), (∀ k ∈ l, ∀ ws, Kn z ns ws → (wdM z ns m ws k).1 = v k ∧ Kn z ns (wdM z ns m ws k).2) → ∀ p : Int × List Int, Kn z ns p.2 →
    (l.foldl (wdK (wdM z ns m)) p).1 = l.foldl (fun n k => min (n + v k) 1000000) p.1 ∧ Kn z ns (l.foldl (wdK (wdM z ns m)) p).2
  | [], _, _, h => ⟨rfl, h⟩
  | x :: r, hl, p, h => by
    obtain ⟨h1, h2⟩ := hl x List.mem_cons_self p.2 h
    have := wdK_law r (fun k hk => hl k (List.mem_cons_of_mem _ hk)) (wdK (wdM z ns m) p x) h2
    rw [List.foldl_cons, List.foldl_cons, this.1]
    refine ⟨?_, this.2⟩
    rw [show (wdK (wdM z ns m) p x).1 = min (p.1 + v x) 1000000 by unfold wdK; rw [h1]]
theorem wdM_law {z : Int} (hz : z < 1) {ns : List EN} (ht : MayT ns) : ∀ (m i : Nat), i < ns.length → rkE ns i < m → ∀ ws, Kn z ns ws → (wdM z ns m ws i).1 = wvE ns i ∧ Kn z ns (wdM z ns m ws i).2
  | 0, _, _, h, _, _ => absurd h (Nat.not_lt_zero _)
  | m + 1, i, hi, hm, ws, hw => by
    have hd : ∀ a : Int, 0 ≤ a ∧ a < (ns.length : Int) ∧ rkE ns a.toNat < rkE ns i → ∀ ws, Kn z ns ws → (wdM z ns m ws a).1 = wdE ns (rkE ns i) a ∧ Kn z ns (wdM z ns m ws a).2 := fun a ⟨g1, g2, g3⟩ ws hw => by
      obtain ⟨a, rfl⟩ : ∃ k : Nat, a = (k : Int) := ⟨a.toNat, by omega⟩
      rw [Int.toNat_natCast] at g3
      rw [wd_fuel ht (rkE ns i) (rkE ns a + 1) a (by omega) g3 (by omega)]
      exact wdM_law hz ht m a (by omega) (by omega) ws hw
    unfold wdM
    rw [Int.toNat_natCast]
    by_cases hc : z < ws.getD i 0
    · rw [if_pos hc]
      refine ⟨?_, hw⟩
      rcases hw.2 i hi with h | h
      · omega
      · exact h
    rw [if_neg hc]
    have h0 : (wd0 ns (wdM z ns m) ws i).1 = (match defA ns i with
      | some a => 1 + wdE ns (rkE ns i) a
      | none => 1) ∧ Kn z ns (wd0 ns (wdM z ns m) ws i).2 := by
      unfold wd0
      cases hda : defA ns i with
      | none => exact ⟨rfl, hw⟩
      | some a =>
        obtain ⟨h1, h2⟩ := hd a (rk_def ht hi hda) ws hw
        exact ⟨by show 1 + (wdM z ns m ws a).1 = 1 + wdE ns (rkE ns i) a; rw [h1], h2⟩
    obtain ⟨h1, h2⟩ := wdK_law (v := wdE ns (rkE ns i)) (kidsE (ndE ns i)) (fun k hk => by
      obtain ⟨g1, g2⟩ := kids_nn (may_kids ht) hi k hk
      exact hd k ⟨g1, by omega, rk_kid ht hi (by rw [Int.toNat_of_nonneg g1]; exact hk)⟩) _ h0.2
    rw [h0.1] at h1
    have hv : min ((kidsE (ndE ns i)).foldl (wdK (wdM z ns m)) (wd0 ns (wdM z ns m) ws i)).1 1000000 = wvE ns i := by
      rw [h1]
      unfold wvE
      rw [wdE, Int.toNat_natCast]
    refine ⟨hv, ?_⟩
    show Kn z ns (((kidsE (ndE ns i)).foldl (wdK (wdM z ns m)) (wd0 ns (wdM z ns m) ws i)).2.set i (min ((kidsE (ndE ns i)).foldl (wdK (wdM z ns m)) (wd0 ns (wdM z ns m) ws i)).1 1000000))
    rw [hv]
    refine ⟨by rw [List.length_set, h2.1], fun j hj => ?_⟩
    by_cases e : j = i
    · subst e
      exact .inr (by simp [List.getD_eq_getElem?_getD, h2.1, hi])
    · rw [show (((kidsE (ndE ns i)).foldl (wdK (wdM z ns m)) (wd0 ns (wdM z ns m) ws i)).2.set i (wvE ns i)).getD j 0 = ((kidsE (ndE ns i)).foldl (wdK (wdM z ns m)) (wd0 ns (wdM z ns m) ws i)).2.getD j 0 by
        simp [List.getD_eq_getElem?_getD, List.getElem?_set_ne (fun e' : i = j => e e'.symm)]]
      exact h2.2 j hj
theorem kn_new (z : Int) (ns : List EN) : Kn z ns (List.replicate ns.length z) := ⟨List.length_replicate, fun j hj => .inl (by simp [List.getD_eq_getElem?_getD, hj])⟩
def costE (ns : List EN) : Int := if errE ns = 0 then wvE ns (ns.length - 1) else 1000000
def wO (ns : List EN) (ws : List Int) : List (Name × Ob) := [([100], .box [.d (.sl (some 9) (ns.map enD)), .d (.sl (some 2) ((refBs ns).map bD)), .vw [101] 0 ns.length]), ([101], .arr none (ws.map i64))]
theorem refBs_get {ns : List EN} {i : Nat} (h : i < ns.length) : ((refBs ns).map bD).getD i .nilp = .agg [i64 (refB ns i).1, i64 (refB ns i).2] := by
  simp [refBs, h, bD]
theorem refB_in {ns : List EN} (ht : MayT ns) {i : Nat} (hi : i < ns.length) (h : 0 ≤ (refB ns i).1) : ∃ x : Nat, (refB ns i).1 = (x : Int) ∧ x < ns.length := by
  unfold refB at h ⊢
  split
  · rename_i h4
    rw [if_pos h4] at h
    obtain ⟨x, h1, h2, _⟩ := climb_bel ht ns.length i hi h
    exact ⟨x, h1, h2⟩
  · rename_i h4
    rw [if_neg h4] at h
    exact absurd h (by decide)
theorem if_min (a c : Int) : (if c < a then c else a) = min a c := by split <;> omega
set_option maxHeartbeats 2000000 in
theorem f112_ok {G} (ns : List EN) (ht : MayT ns) (hN : ns.length ≤ 1000000) (hs : ∀ n ∈ ns, n.l.length ≤ 900000) :
    ∀ (m i : Nat) (ws : List Int), i < ns.length → rkE ns i < m → ws.length = ns.length → Wb ws → HCall Tryz.prog G 112 [.at [100] 0, .d (i64 (i : Int))] (wO ns ws) [100, 101] (fun r hp' => r = .d (i64 (wdM 0 ns m ws i).1) ∧ hp' = wO ns (wdM 0 ns m ws i).2)
  | 0, _, _, _, h, _, _ => absurd h (Nat.not_lt_zero _)
  | m + 1, i, ws, hi, hm, hl, hw => by
    have ih := f112_ok (G := G) ns ht hN hs m
    have hk := may_kids ht
    have hf := wdM_ok (z := 0) (by decide) ns ns.length m
    have hg := ens_get hi
    have hgB := refBs_get hi
    have hsi := hs _ (by rw [ndE_eq hi]; exact List.getElem_mem hi : ndE ns i ∈ ns)
    have hkn := kids_nn hk hi
    have hbi := refB_in ht hi
    have hda : ∀ a, defA ns i = some a → _ := fun a => rk_def ht hi
    have hrk : ∀ k : Nat, (k : Int) ∈ kidsE (ndE ns i) → rkE ns k < rkE ns i := fun k => rk_kid ht hi
    have hdf : defA ns i = if 0 ≤ (refB ns i).1 ∧ ((ndE ns (refB ns i).1.toNat).k = 7 ∨ (ndE ns (refB ns i).1.toNat).k = 8) ∧ withinE ns ns.length (ndE ns (refB ns i).1.toNat).a i = false then some (ndE ns (refB ns i).1.toNat).a else none := rfl
    have hku := fun x : Nat => may_kids ht x
    generalize hR : wdM 0 ns (m + 1) ws i = R
    rw [wdM, Int.toNat_natCast] at hR
    obtain ⟨n, hne⟩ : ∃ n, n = ndE ns i := ⟨_, rfl⟩
    rw [← hne] at hg hsi hkn hR hrk
    obtain ⟨K, hK⟩ : ∃ K, K = kidsE n := ⟨_, rfl⟩
    have hkc := f104_new (G := G) n (by omega)
    have hKl : K.length ≤ 900003 := by rw [hK, kidsE_len]; unfold wideE; have := kidN_le n.k; split <;> omega
    rw [← hK] at hkc hkn hR hrk
    obtain ⟨b, hb⟩ : ∃ b, b = refB ns i := ⟨_, rfl⟩
    rw [← hb] at hgB hbi hdf
    have hg0 := hw.get i
    obtain ⟨p, hp⟩ : ∃ p, p = wd0 ns (wdM 0 ns m) ws i := ⟨_, rfl⟩
    have hpo := wd0_ok hf ns i hl hw
    rw [← hp] at hR hpo
    have hpn : defA ns i = none → p = (1, ws) := fun h => by rw [hp]; unfold wd0; rw [h]
    have hps : ∀ a, defA ns i = some a → p = (1 + (wdM 0 ns m ws a).1, (wdM 0 ns m ws a).2) := fun a h => by rw [hp]; unfold wd0; rw [h]
    have hBl := refBs_len ns
    clear hp
    unfold wO at ih ⊢
    refine funR_ok Tryz.func112 rfl (by decide +kernel) (by simp [Tryz.ntmps112]) fun B0 hB0 => ?_
    refine Y_seq (Y_codeE fun E => ?_)
    simp only [go_sem]
    refine Y_seq (Y_codeE fun E => ?_)
    simp only [go_sem]
    refine ⟨⟨by omega, by omega⟩, ?_⟩
    rw [ints_get (by omega)]
    simp only [go_sem]
    refine e_ifd E (fun g1 => ?_) (fun g1 => ?_) <;> simp only [go_sem]
    · rw [if_pos g1] at hR
      refine ⟨⟨by omega, by omega⟩, ?_⟩
      rw [ints_get (by omega)]
      simp only [go_sem]
      rw [← hR]
      refine X_ret (.inl rfl) hB0 ?_
      simp only [go_sem]
      refine ⟨_, _, [100, 101], id, ⟨rfl, rfl⟩, ?_⟩
      simp only [go_sem]
    rw [if_neg g1] at hR
    refine Y_seq (Y_codeE fun E => ?_)
    simp only [go_sem]
    refine Y_seq (Y_cut1 [(0, .at [100] 0), (1, .d (i64 i)), (5, .d (i64 p.1))] [([100], .box [.d (.sl (some 9) (ns.map enD)), .d (.sl (some 2) ((refBs ns).map bD)), .vw [101] 0 ns.length]), ([101], .arr none (p.2.map i64))] [100, 101] (fun E => ?_) ?_)
    · simp only [go_sem]
      refine ⟨⟨by omega, by omega⟩, ?_⟩
      rw [hgB]
      simp only [go_sem]
      refine e_ifd E (fun g2 => ?_) (fun g2 => ?_) <;> simp only [go_sem]
      · obtain ⟨x, hx1, hx2⟩ := hbi g2
        rw [hx1] at hdf ⊢
        simp only [Int.toNat_natCast] at hdf
        have hgx := ens_get hx2
        have hkx := kids_nn hk hx2
        obtain ⟨nx, hnx⟩ : ∃ nx, nx = ndE ns x := ⟨_, rfl⟩
        rw [← hnx] at hgx hkx hdf
        refine ⟨⟨by omega, by omega⟩, ?_⟩
        rw [Int.toNat_natCast, hgx]
        simp only [go_sem]
        have hax : nx.k = 7 ∨ nx.k = 8 → ∃ a : Nat, nx.a = (a : Int) ∧ a < ns.length := fun h => by
          have hke : kidsE nx = [nx.a, nx.b] := by
            rcases h with h | h <;> simp [kidsE, h, kidN, partsZ]
          obtain ⟨q1, q2⟩ := hkx nx.a (by rw [hke]; exact List.mem_cons_self)
          exact ⟨nx.a.toNat, by omega, by omega⟩
        refine e_gifd E (fun h7 => ?_) (fun h7 => ?_) <;> simp only [go_sem]
        · obtain ⟨a, ha, han⟩ := hax (.inl h7)
          have hcu := f161_ok (G := G) ns (refBs ns) ws hs hk (i : Int) ns.length a han han
          rw [← ha] at hcu
          unfold wsD at hcu
          refine e_callG E [.A [101] none (ws.map i64), .B [100] (.agg [.sl (some 9) (ns.map enD), .sl (some 2) ((refBs ns).map bD), .sl none (ws.map i64)])] hcu (by rintro _ rfl; rfl) (by simp only [go_sem]; rw [List.take_of_length_le (by rw [List.length_map, hl]; exact Nat.le_refl _)]) rfl (by simp only [go_sem]; try rfl) (by simp) ?_
          rintro _ rfl
          simp only [go_sem]
          cases hwb : withinE ns ns.length nx.a i with
          | true =>
            have e0 := hpn (by rw [hdf, if_neg (by rw [hwb]; simp)])
            simp only [go_sem]
            refine cut_le id ?_
            rw [e0]
            simp only [go_sem]
            all_goals rfl
          | false =>
            have e0 := hps _ (by rw [hdf, if_pos ⟨by omega, (.inl h7), hwb⟩])
            obtain ⟨b1, b2, b3⟩ := hda _ (by rw [hdf, if_pos ⟨by omega, (.inl h7), hwb⟩])
            rw [ha, Int.toNat_natCast] at b3
            have hfa := hf ws nx.a hl hw
            have ihc := ih a ws han (by omega) hl hw
            rw [← ha] at ihc
            simp only [go_sem]
            refine e_callO E _ _ _ ihc rfl rfl ⟨by simp only [go_sem], by first | (rw [mk_used]; decide) | (simp only [go_sem]; done) | (simp only [go_sem]; rw [mk_used]; decide) | (simp only [go_sem]; decide)⟩ (by simp only [go_sem]) (by simp only [go_sem]) (by simp only [go_sem]) ?_
            rintro _ _ ⟨rfl, rfl⟩
            refine ⟨by simp only [go_sem]; try omega, ?_⟩
            simp only [go_sem]
            rw [w64_in ⟨by omega, by omega⟩]
            refine cut_le id ?_
            rw [e0]
            simp only [go_sem]
            all_goals rfl
        · refine e_gifd E (fun h8 => ?_) (fun h8 => ?_) <;> simp only [go_sem]
          · obtain ⟨a, ha, han⟩ := hax (.inr h8)
            have hcu := f161_ok (G := G) ns (refBs ns) ws hs hk (i : Int) ns.length a han han
            rw [← ha] at hcu
            unfold wsD at hcu
            refine e_callG E [.A [101] none (ws.map i64), .B [100] (.agg [.sl (some 9) (ns.map enD), .sl (some 2) ((refBs ns).map bD), .sl none (ws.map i64)])] hcu (by rintro _ rfl; rfl) (by simp only [go_sem]; rw [List.take_of_length_le (by rw [List.length_map, hl]; exact Nat.le_refl _)]) rfl (by simp only [go_sem]; try rfl) (by simp) ?_
            rintro _ rfl
            simp only [go_sem]
            cases hwb : withinE ns ns.length nx.a i with
            | true =>
              have e0 := hpn (by rw [hdf, if_neg (by rw [hwb]; simp)])
              simp only [go_sem]
              refine cut_le id ?_
              rw [e0]
              simp only [go_sem]
              all_goals rfl
            | false =>
              have e0 := hps _ (by rw [hdf, if_pos ⟨by omega, (.inr h8), hwb⟩])
              obtain ⟨b1, b2, b3⟩ := hda _ (by rw [hdf, if_pos ⟨by omega, (.inr h8), hwb⟩])
              rw [ha, Int.toNat_natCast] at b3
              have hfa := hf ws nx.a hl hw
              have ihc := ih a ws han (by omega) hl hw
              rw [← ha] at ihc
              simp only [go_sem]
              refine e_callO E _ _ _ ihc rfl rfl ⟨by simp only [go_sem], by first | (rw [mk_used]; decide) | (simp only [go_sem]; done) | (simp only [go_sem]; rw [mk_used]; decide) | (simp only [go_sem]; decide)⟩ (by simp only [go_sem]) (by simp only [go_sem]) (by simp only [go_sem]) ?_
              rintro _ _ ⟨rfl, rfl⟩
              refine ⟨by simp only [go_sem]; try omega, ?_⟩
              simp only [go_sem]
              rw [w64_in ⟨by omega, by omega⟩]
              refine cut_le id ?_
              rw [e0]
              simp only [go_sem]
              all_goals rfl
          · have e0 := hpn (by rw [hdf, if_neg (by rintro ⟨_, h, _⟩; exact h.elim h7 h8)])
            refine cut_le id ?_
            rw [e0]
            simp only [go_sem]
            all_goals rfl
      · have e0 := hpn (by rw [hdf, if_neg (by rintro ⟨h, _⟩; exact g2 h)])
        refine cut_le id ?_
        rw [e0]
        simp only [go_sem]
        all_goals rfl
    refine Y_seq (Y_codeE fun E => ?_)
    simp only [go_sem]
    refine ⟨⟨by omega, by omega⟩, ?_⟩
    rw [hg]
    simp only [go_sem]
    refine e_callO E [.d (enD n)] [] [] hkc rfl rfl ⟨by simp only [go_sem], by rw [mk_used]; decide⟩ rfl (by simp only [go_sem]) (by simp only [go_sem]) ?_
    rintro _ _ ⟨rfl, rfl⟩
    simp only [go_sem]
    refine c_frzA E [73, 0] none (K.map i64) rfl ?_
    simp only [go_sem]
    refine loopO_e E (X := { x : Nat × (Int × List Int) // x.1 ≤ K.length ∧ (0 ≤ x.2.1 ∧ x.2.1 ≤ 1000001 ∧ x.2.2.length = ns.length ∧ Wb x.2.2) ∧ (K.drop x.1).foldl (wdK (wdM 0 ns m)) x.2 = K.foldl (wdK (wdM 0 ns m)) p })
      (fun x => [(0, .at [100] 0), (1, .d (i64 i)), (5, .d (i64 x.1.2.1)), (73, .d (.sl none (K.map i64))), (74, .d (i64 K.length)), (75, .d (i64 x.1.1))])
      (fun x => [([100], .box [.d (.sl (some 9) (ns.map enD)), .d (.sl (some 2) ((refBs ns).map bD)), .vw [101] 0 ns.length]), ([101], .arr none (x.1.2.2.map i64))]) [100, 101] (fun x => K.length - x.1.1) ⟨(0, p), Nat.zero_le _, hpo, rfl⟩ ?_ ?_
    · simp only [go_sem]
      all_goals first | rfl | exact ⟨rfl, rfl⟩
    rintro ⟨⟨q, y⟩, hq, hyo, hyf⟩ E0
    refine hideQ E0 fun Q' hQ E' => ?_
    simp only at hq hyo hyf ⊢
    simp only [go_sem]
    refine e_ifd E' (fun f1 => ?_) (fun f1 => ?_) <;> simp only [go_sem]
    · have hq' : q < K.length := by omega
      refine ⟨⟨by omega, by omega⟩, ?_⟩
      have hkm := List.getElem_mem hq'
      have hkq := hkn K[q] hkm
      obtain ⟨k, hkk⟩ : ∃ k : Nat, K[q] = (k : Int) := ⟨K[q].toNat, by omega⟩
      rw [ints_get hq', show K.getD q 0 = (k : Int) by simp [hq', hkk]]
      rw [hkk] at hkm
      have hrkk := hrk k hkm
      have hfk := hf y.2 (k : Int) hyo.2.2.1 hyo.2.2.2
      simp only [go_sem]
      refine e_callO E' _ _ _ (ih k y.2 (by omega) (by omega) hyo.2.2.1 hyo.2.2.2) rfl rfl ⟨by simp only [go_sem], by first | (rw [mk_used]; decide) | (simp only [go_sem]; done) | (simp only [go_sem]; rw [mk_used]; decide) | (simp only [go_sem]; decide)⟩ (by simp only [go_sem]) (by simp only [go_sem]) (by simp only [go_sem]) ?_
      rintro _ _ ⟨rfl, rfl⟩
      refine ⟨by simp only [go_sem]; try omega, ?_⟩
      simp only [go_sem]
      rw [w64_in (n := y.1 + (wdM 0 ns m y.2 (k : Int)).1) ⟨by omega, by omega⟩, w64_in (n := (q : Int) + 1) ⟨by omega, by omega⟩, if_min, hQ]
      simp only [go_sem]
      refine ⟨⟨(q + 1, wdK (wdM 0 ns m) y (k : Int)), by show q + 1 ≤ _; omega, ⟨by show 0 ≤ min (y.1 + (wdM 0 ns m y.2 (k : Int)).1) 1000000; omega, by show min (y.1 + (wdM 0 ns m y.2 (k : Int)).1) 1000000 ≤ 1000001; omega, hfk.2.2.1, hfk.2.2.2⟩, ?_⟩, by show K.length - (q + 1) < _; omega, ?_⟩
      · show (K.drop (q + 1)).foldl (wdK (wdM 0 ns m)) (wdK (wdM 0 ns m) y (k : Int)) = _
        rw [← hyf, List.drop_eq_getElem_cons hq', List.foldl_cons, hkk]
      · first | rfl | exact ⟨rfl, rfl⟩ | exact ⟨⟨rfl, rfl⟩, rfl⟩
    · have h3 : q = K.length := by omega
      subst h3
      rw [List.drop_length, List.foldl_nil] at hyf
      rw [← hyf] at hR
      obtain ⟨y1, y2, y3, y4⟩ := hyo
      rw [hQ]
      simp only [go_sem]
      refine Y_seq (Y_codeE fun E => ?_)
      simp only [go_sem]
      refine ⟨⟨by omega, by omega⟩, ?_⟩
      rw [if_min]
      rw [show (y.2.map i64).set i (.int .i64 (min y.1 1000000)) = (y.2.set i (min y.1 1000000)).map i64 by rw [List.map_set]]
      refine Y_codeE fun E => ?_
      simp only [go_sem]
      refine ⟨⟨by omega, by omega⟩, ?_⟩
      rw [ints_get (by rw [List.length_set]; omega), show (y.2.set i (min y.1 1000000)).getD i 0 = min y.1 1000000 by simp [List.getD_eq_getElem?_getD, y3, hi]]
      simp only [go_sem]
      rw [← hR]
      refine X_ret (.inl rfl) hB0 ?_
      simp only [go_sem]
      refine ⟨_, _, [100, 101], id, ⟨rfl, rfl⟩, ?_⟩
      simp only [go_sem]
theorem wvE_pos (ns : List EN) (i : Nat) : 0 ≤ wvE ns i ∧ wvE ns i ≤ 1000000 := ⟨(wd_pos ns _ _).1, (wd_pos ns _ _).2.1⟩
set_option maxHeartbeats 1000000 in
theorem f63_ok {G} (ns : List EN) (hs : ∀ n ∈ ns, SaneN BIG n) (hN : ns.length ≤ 1000000) (hl : ∀ n ∈ ns, n.l.length ≤ 900000) : HP Tryz.prog G 63 [exD ns] (fun r => r = .d (i64 (costE ns))) := by
  have hl' : ∀ n ∈ ns, n.l.length ≤ 1000000 := fun n hn => by have := hl n hn; omega
  have c1 := f111_ok (G := G) ns hs hN hl'
  have c2 := f41_ok (G := G) ns hs hN hl'
  have herr := err_ref ns
  unfold costE
  by_cases h0 : mayE ns = 0
  · have ht := mayT h0
    have hp := ht.pos
    rw [if_pos h0, h0, bindE_ref ht] at c1
    obtain ⟨c, hc⟩ : ∃ c, c = closedE ns := ⟨_, rfl⟩
    rw [← hc] at c2 herr
    by_cases h1 : c.2 = 0
    · rw [if_pos (herr.1 ⟨h0, h1⟩)]
      obtain ⟨hv, _⟩ := wdM_law (z := 0) (by decide) ht (rkE ns (ns.length - 1) + 1) (ns.length - 1) (by omega) (by omega) _ (kn_new 0 ns)
      have c3 := f112_ok (G := G) ns ht hN hl (rkE ns (ns.length - 1) + 1) (ns.length - 1) (List.replicate ns.length 0) (by omega) (by omega) (by simp) (fun x hx => by rw [List.mem_replicate] at hx; omega)
      have hWl := (wdM_ok (z := 0) (by decide) ns ns.length (rkE ns (ns.length - 1) + 1) (List.replicate ns.length 0) ((ns.length - 1 : Nat) : Int) (by simp) (fun x hx => by rw [List.mem_replicate] at hx; omega)).2.2.1
      rw [hv] at c3
      generalize (wdM 0 ns (rkE ns (ns.length - 1) + 1) (List.replicate ns.length 0) ((ns.length - 1 : Nat) : Int)).2 = W at c3 hWl
      unfold wO at c3
      unfold exD at c1 c2 ⊢
      rw [h1] at c2
      refine funZ_ok Tryz.func63 rfl (by decide +kernel) (by simp [Tryz.ntmps63]) (veil fun E => ?_)
      simp only [go_sem]
      refine e_call E (c1) rfl rfl (by simp) ?_
      rintro _ rfl
      simp only [go_sem]
      refine e_call E (c2) rfl rfl (by simp) ?_
      rintro _ rfl
      simp only [go_sem]
      refine region_xv mixed E fun X => ?_
      simp only [go_sem]
      refine x_mkS X (d := 27) (t := 95) (e := 3) (n := ns.length) (z := i64 0) (by rw [ti95]) (by rw [ti3]; rfl) (by rw [ti3]; rfl) rfl rfl (by rw [ti3]; exact ⟨by simp only; omega, by omega⟩) ⟨by simp only [go_sem], by rw [mk_used]; decide⟩ ?_
      simp only [go_sem]
      refine x_box X (cs := [.d (.sl (some 9) (ns.map enD)), .d (.sl (some 2) ((refBs ns).map bD)), .vw [27] 0 ns.length]) rfl ⟨by simp only [go_sem], by rw [mk_used]; decide⟩ ?_
      simp only [go_sem]
      refine ⟨by decide +kernel, ?_⟩
      rw [w64_in ⟨by omega, by omega⟩]
      rw [show ((ns.length - 1 : Nat) : Int) = (ns.length : Int) - 1 by omega, List.map_replicate] at c3
      refine e_callS E (tau [([100], [29]), ([101], [27])]) _ _ _ c3 rfl (by simp only [go_sem]; try rfl) ⟨by simp only [go_sem], by first | (rw [mk_used]; decide) | (simp only [go_sem]; done) | (simp only [go_sem]; rw [mk_used]; decide) | (simp only [go_sem]; decide)⟩ rfl (by simp only [go_sem]; try rfl) (by simp only [go_sem]) ?_
      rintro _ _ ⟨rfl, rfl⟩
      refine ⟨by simp only [go_sem]; try simp; try omega, ?_⟩
      simp only [go_sem]
      refine ⟨[], ?_⟩
      simp only [go_sem]
    · rw [if_neg (fun h => h1 (herr.2 h).2)]
      unfold exD at c1 c2 ⊢
      refine funZ_ok Tryz.func63 rfl (by decide +kernel) (by simp [Tryz.ntmps63]) (veil fun E => ?_)
      simp only [go_sem]
      refine e_call E (c1) rfl rfl (by simp) ?_
      rintro _ rfl
      simp only [go_sem]
      refine e_call E (c2) rfl rfl (by simp) ?_
      rintro _ rfl
      simp only [go_sem]
      refine e_ifd E (fun _ => ?_) (fun h => absurd (by simpa using h) h1) <;> simp only [go_sem]
      refine ⟨[], ?_⟩
      simp only [go_sem]
  · rw [if_neg (fun h => h0 (herr.2 h).1)]
    rw [if_neg h0] at c1
    clear herr
    generalize mayE ns = b at c1 h0
    unfold exD at c1 ⊢
    refine funZ_ok Tryz.func63 rfl (by decide +kernel) (by simp [Tryz.ntmps63]) (veil fun E => ?_)
    simp only [go_sem]
    refine e_call E (c1) rfl rfl (by simp) ?_
    rintro _ rfl
    simp only [go_sem]
    refine e_ifd E (fun _ => ?_) (fun h => absurd (by simpa using h) h0) <;> simp only [go_sem]
    refine ⟨[], ?_⟩
    simp only [go_sem]
theorem defA_no {ns : List EN} {i : Nat} (h : (ndE ns i).k ≠ 4) : defA ns i = none := by
  unfold defA refB
  rw [if_neg h, if_neg]
  rintro ⟨h, _⟩
  exact absurd h (by decide)
set_option maxHeartbeats 2000000 in
theorem f115_ok {G} (ns : List EN) (ht : MayT ns) (hN : ns.length ≤ 1000000) (hs : ∀ n ∈ ns, n.l.length ≤ 900000) (hcl : ∀ j, j < ns.length → (ndE ns j).k = 4 → 0 ≤ (refB ns j).1) :
    ∀ (m i : Nat) (ws : List Int), i < ns.length → rkE ns i < m → ws.length = ns.length → Wb ws → HCall Tryz.prog G 115 [.d (exD ns), .d (.sl (some 2) ((refBs ns).map bD)), .d (i64 (i : Int)), .vw [101] 0 ns.length] [([101], .arr none (ws.map i64))] [101] (fun r hp' => r = .d (i64 (wdM (-1) ns m ws i).1) ∧ hp' = [([101], .arr none ((wdM (-1) ns m ws i).2.map i64))])
  | 0, _, _, _, h, _, _ => absurd h (Nat.not_lt_zero _)
  | m + 1, i, ws, hi, hm, hl, hw => by
    have ih := f115_ok (G := G) ns ht hN hs hcl m
    have hk := may_kids ht
    have hs' : ∀ n ∈ ns, n.l.length ≤ 1000000 := fun n hn => by have := hs n hn; omega
    have hf := wdM_ok (z := -1) (by decide) ns ns.length m
    have hg := ens_get hi
    have hgB := refBs_get hi
    have hsi := hs' _ (by rw [ndE_eq hi]; exact List.getElem_mem hi : ndE ns i ∈ ns)
    have hkn := kids_nn hk hi
    have hbi := refB_in ht hi
    have hda : ∀ a, defA ns i = some a → _ := fun a => rk_def ht hi
    have hrk : ∀ k : Nat, (k : Int) ∈ kidsE (ndE ns i) → rkE ns k < rkE ns i := fun k => rk_kid ht hi
    have hdf : defA ns i = if 0 ≤ (refB ns i).1 ∧ ((ndE ns (refB ns i).1.toNat).k = 7 ∨ (ndE ns (refB ns i).1.toNat).k = 8) ∧ withinE ns ns.length (ndE ns (refB ns i).1.toNat).a i = false then some (ndE ns (refB ns i).1.toNat).a else none := rfl
    have hdn := defA_no (ns := ns) (i := i)
    have hci := hcl i hi
    have hkc := f73_ok (G := G) (ndE ns i) hsi
    generalize hR : wdM (-1) ns (m + 1) ws i = R
    rw [wdM, Int.toNat_natCast] at hR
    obtain ⟨n, hne⟩ : ∃ n, n = ndE ns i := ⟨_, rfl⟩
    rw [← hne] at hg hsi hkn hR hrk hkc hdn hci
    obtain ⟨K, hK⟩ : ∃ K, K = kidsE n := ⟨_, rfl⟩
    have hKl : K.length ≤ 1000003 := by rw [hK, kidsE_len]; unfold wideE; have := kidN_le n.k; split <;> omega
    rw [← hK] at hkc hkn hR hrk
    obtain ⟨b, hb⟩ : ∃ b, b = refB ns i := ⟨_, rfl⟩
    rw [← hb] at hgB hbi hdf hci
    have hg0 := hw.get i
    obtain ⟨p, hp⟩ : ∃ p, p = wd0 ns (wdM (-1) ns m) ws i := ⟨_, rfl⟩
    have hpo := wd0_ok hf ns i hl hw
    rw [← hp] at hR hpo
    have hpn : defA ns i = none → p = (1, ws) := fun h => by rw [hp]; unfold wd0; rw [h]
    have hps : ∀ a, defA ns i = some a → p = (1 + (wdM (-1) ns m ws a).1, (wdM (-1) ns m ws a).2) := fun a h => by rw [hp]; unfold wd0; rw [h]
    have hBl := refBs_len ns
    clear hp
    unfold exD at ih ⊢
    refine funR_ok Tryz.func115 rfl (by decide +kernel) (by simp [Tryz.ntmps115]) fun B0 hB0 => ?_
    refine Y_seq (Y_codeE fun E => ?_)
    simp only [go_sem]
    refine Y_seq (Y_codeE fun E => ?_)
    simp only [go_sem]
    refine ⟨⟨by omega, by omega⟩, ?_⟩
    rw [ints_get (by omega)]
    simp only [go_sem]
    refine e_ifd E (fun g1 => ?_) (fun g1 => ?_) <;> simp only [go_sem]
    · rw [if_pos (by omega)] at hR
      refine ⟨⟨by omega, by omega⟩, ?_⟩
      rw [ints_get (by omega)]
      simp only [go_sem]
      rw [← hR]
      refine X_ret (.inl rfl) hB0 ?_
      simp only [go_sem]
      refine ⟨_, _, [101], id, ⟨rfl, rfl⟩, ?_⟩
      simp only [go_sem]
    rw [if_neg (by omega)] at hR
    refine Y_seq (Y_codeE fun E => ?_)
    simp only [go_sem]
    refine Y_seq (Y_cut1 [(1, .d (.sl (some 2) ((refBs ns).map bD))), (2, .d (i64 i)), (3, .vw [101] 0 ns.length), (4, .at [4] 0), (9, .d (i64 p.1))] [([4], .box [.d (.sl (some 9) (ns.map enD))]), ([101], .arr none (p.2.map i64))] [4, 101] (fun E => ?_) ?_)
    · simp only [go_sem]
      refine ⟨⟨by omega, by omega⟩, ?_⟩
      rw [hgB]
      simp only [go_sem]
      refine region_xv mixed E fun X => ?_
      simp only [go_sem]
      refine ⟨⟨by omega, by omega⟩, ?_⟩
      rw [hg]
      simp only [go_sem]
      refine x_gifd X (fun h4 => ?_) (fun h4 => ?_) <;> simp only [go_sem]
      · have g2 := hci h4
        obtain ⟨x, hx1, hx2⟩ := hbi g2
        rw [hx1] at hdf ⊢
        simp only [Int.toNat_natCast] at hdf
        have hgx := ens_get hx2
        have hkx := kids_nn hk hx2
        obtain ⟨nx, hnx⟩ : ∃ nx, nx = ndE ns x := ⟨_, rfl⟩
        rw [← hnx] at hgx hkx hdf
        refine ⟨⟨by omega, by omega⟩, ?_⟩
        first | rw [hgx] | rw [Int.toNat_natCast, hgx]
        simp only [go_sem]
        have hax : nx.k = 7 ∨ nx.k = 8 → ∃ a : Nat, nx.a = (a : Int) ∧ a < ns.length := fun h => by
          have hke : kidsE nx = [nx.a, nx.b] := by
            rcases h with h | h <;> simp [kidsE, h, kidN, partsZ]
          obtain ⟨q1, q2⟩ := hkx nx.a (by rw [hke]; exact List.mem_cons_self)
          exact ⟨nx.a.toNat, by omega, by omega⟩
        refine x_gifd X (fun h7 => ?_) (fun h7 => ?_) <;> simp only [go_sem]
        · obtain ⟨a, ha, han⟩ := hax (.inl h7)
          have hcu := f164_ok (G := G) ns hs' hk (i : Int) ns.length a han han
          rw [← ha] at hcu
          unfold exD at hcu
          refine ⟨⟨by omega, by omega⟩, ?_⟩
          first | rw [hgx] | rw [Int.toNat_natCast, hgx]
          simp only [go_sem]
          refine x_call X hcu rfl rfl (by simp) ?_
          cases hwb : withinE ns ns.length nx.a i with
          | true =>
            have e0 := hpn (by rw [hdf, if_neg (by rw [hwb]; simp)])
            simp only [go_sem]
            refine ⟨by decide +kernel, ?_⟩
            try simp only [go_sem]
            refine cut_le id ?_
            rw [e0]
            simp only [go_sem]
            all_goals first | rfl | exact ⟨rfl, rfl⟩
          | false =>
            have e0 := hps _ (by rw [hdf, if_pos ⟨by omega, (.inl h7), hwb⟩])
            obtain ⟨b1, b2, b3⟩ := hda _ (by rw [hdf, if_pos ⟨by omega, (.inl h7), hwb⟩])
            rw [ha, Int.toNat_natCast] at b3
            have hfa := hf ws nx.a hl hw
            have ihc := ih a ws han (by omega) hl hw
            rw [← ha] at ihc
            simp only [go_sem]
            refine ⟨by decide +kernel, ?_⟩
            try simp only [go_sem]
            refine region_xv mixed E fun X => ?_
            simp only [go_sem]
            refine ⟨⟨by omega, by omega⟩, ?_⟩
            first | rw [hgx] | rw [Int.toNat_natCast, hgx]
            simp only [go_sem]
            refine x_callO X _ _ _ _ _ ihc rfl rfl ⟨by simp only [go_sem], by first | (rw [mk_used]; decide) | (simp only [go_sem]; done) | (simp only [go_sem]; rw [mk_used]; decide) | (simp only [go_sem]; decide)⟩ (by simp only [go_sem]) (by simp only [go_sem]) (by simp only [go_sem]) (by simp only [go_sem]; try omega) ?_
            simp only [go_sem]
            refine ⟨by decide +kernel, ?_⟩
            rw [w64_in ⟨by omega, by omega⟩]
            refine cut_le id ?_
            rw [e0]
            simp only [go_sem]
            all_goals first | rfl | exact ⟨rfl, rfl⟩
        · refine ⟨⟨by omega, by omega⟩, ?_⟩
          first | rw [hgx] | rw [Int.toNat_natCast, hgx]
          simp only [go_sem]
          refine x_gifd X (fun h8 => ?_) (fun h8 => ?_) <;> simp only [go_sem]
          · obtain ⟨a, ha, han⟩ := hax (.inr h8)
            have hcu := f164_ok (G := G) ns hs' hk (i : Int) ns.length a han han
            rw [← ha] at hcu
            unfold exD at hcu
            refine ⟨⟨by omega, by omega⟩, ?_⟩
            first | rw [hgx] | rw [Int.toNat_natCast, hgx]
            simp only [go_sem]
            refine x_call X hcu rfl rfl (by simp) ?_
            cases hwb : withinE ns ns.length nx.a i with
            | true =>
              have e0 := hpn (by rw [hdf, if_neg (by rw [hwb]; simp)])
              simp only [go_sem]
              refine ⟨by decide +kernel, ?_⟩
              try simp only [go_sem]
              refine cut_le id ?_
              rw [e0]
              simp only [go_sem]
              all_goals first | rfl | exact ⟨rfl, rfl⟩
            | false =>
              have e0 := hps _ (by rw [hdf, if_pos ⟨by omega, (.inr h8), hwb⟩])
              obtain ⟨b1, b2, b3⟩ := hda _ (by rw [hdf, if_pos ⟨by omega, (.inr h8), hwb⟩])
              rw [ha, Int.toNat_natCast] at b3
              have hfa := hf ws nx.a hl hw
              have ihc := ih a ws han (by omega) hl hw
              rw [← ha] at ihc
              simp only [go_sem]
              refine ⟨by decide +kernel, ?_⟩
              try simp only [go_sem]
              refine region_xv mixed E fun X => ?_
              simp only [go_sem]
              refine ⟨⟨by omega, by omega⟩, ?_⟩
              first | rw [hgx] | rw [Int.toNat_natCast, hgx]
              simp only [go_sem]
              refine x_callO X _ _ _ _ _ ihc rfl rfl ⟨by simp only [go_sem], by first | (rw [mk_used]; decide) | (simp only [go_sem]; done) | (simp only [go_sem]; rw [mk_used]; decide) | (simp only [go_sem]; decide)⟩ (by simp only [go_sem]) (by simp only [go_sem]) (by simp only [go_sem]) (by simp only [go_sem]; try omega) ?_
              simp only [go_sem]
              refine ⟨by decide +kernel, ?_⟩
              rw [w64_in ⟨by omega, by omega⟩]
              refine cut_le id ?_
              rw [e0]
              simp only [go_sem]
              all_goals first | rfl | exact ⟨rfl, rfl⟩
          · have e0 := hpn (by rw [hdf, if_neg (by rintro ⟨_, h, _⟩; exact h.elim h7 h8)])
            refine ⟨by decide +kernel, ?_⟩
            try simp only [go_sem]
            refine cut_le id ?_
            rw [e0]
            simp only [go_sem]
            all_goals first | rfl | exact ⟨rfl, rfl⟩
      · have e0 := hpn (hdn h4)
        refine ⟨by decide +kernel, ?_⟩
        try simp only [go_sem]
        refine cut_le id ?_
        rw [e0]
        simp only [go_sem]
        all_goals first | rfl | exact ⟨rfl, rfl⟩
    refine Y_seq (Y_codeE fun E => ?_)
    simp only [go_sem]
    refine ⟨⟨by omega, by omega⟩, ?_⟩
    rw [hg]
    simp only [go_sem]
    refine e_call E hkc rfl rfl (by simp) ?_
    rintro _ rfl
    simp only [go_sem]
    refine Y_seq (Y_codeE fun E => ?_)
    simp only [go_sem]
    refine loopO_e E (X := { x : Nat × (Int × List Int) // x.1 ≤ K.length ∧ (0 ≤ x.2.1 ∧ x.2.1 ≤ 1000001 ∧ x.2.2.length = ns.length ∧ Wb x.2.2) ∧ (K.drop x.1).foldl (wdK (wdM (-1) ns m)) x.2 = K.foldl (wdK (wdM (-1) ns m)) p })
      (fun x => [(1, .d (.sl (some 2) ((refBs ns).map bD))), (2, .d (i64 i)), (3, .vw [101] 0 ns.length), (4, .at [4] 0), (9, .d (i64 x.1.2.1)), (11, .d (.sl none (K.map i64))), (12, .d (i64 x.1.1))])
      (fun x => [([4], .box [.d (.sl (some 9) (ns.map enD))]), ([101], .arr none (x.1.2.2.map i64))]) [4, 101] (fun x => K.length - x.1.1) ⟨(0, p), Nat.zero_le _, hpo, rfl⟩ ?_ ?_
    · simp only [go_sem]
      all_goals first | rfl | exact ⟨rfl, rfl⟩
    rintro ⟨⟨q, y⟩, hq, hyo, hyf⟩ E0
    refine hideQ E0 fun Q' hQ E' => ?_
    simp only at hq hyo hyf ⊢
    simp only [go_sem]
    refine e_ifd E' (fun f1 => ?_) (fun f1 => ?_) <;> simp only [go_sem]
    · have hq' : q < K.length := by omega
      refine region_xv mixed E' fun X => ?_
      simp only [go_sem]
      refine ⟨⟨by omega, by omega⟩, ?_⟩
      have hkm := List.getElem_mem hq'
      have hkq := hkn K[q] hkm
      obtain ⟨k, hkk⟩ : ∃ k : Nat, K[q] = (k : Int) := ⟨K[q].toNat, by omega⟩
      rw [ints_get hq', show K.getD q 0 = (k : Int) by simp [hq', hkk]]
      rw [hkk] at hkm
      have hrkk := hrk k hkm
      have hfk := hf y.2 (k : Int) hyo.2.2.1 hyo.2.2.2
      simp only [go_sem]
      refine x_callO X _ _ _ _ _ (ih k y.2 (by omega) (by omega) hyo.2.2.1 hyo.2.2.2) rfl rfl ⟨by simp only [go_sem], by first | (rw [mk_used]; decide) | (simp only [go_sem]; done) | (simp only [go_sem]; rw [mk_used]; decide) | (simp only [go_sem]; decide)⟩ (by simp only [go_sem]) (by simp only [go_sem]) (by simp only [go_sem]) (by simp only [go_sem]; try omega) ?_
      simp only [go_sem]
      refine ⟨by decide +kernel, ?_⟩
      rw [w64_in (n := y.1 + (wdM (-1) ns m y.2 (k : Int)).1) ⟨by omega, by omega⟩, w64_in (n := (q : Int) + 1) ⟨by omega, by omega⟩, if_min, hQ]
      simp only [go_sem]
      refine ⟨⟨(q + 1, wdK (wdM (-1) ns m) y (k : Int)), by show q + 1 ≤ _; omega, ⟨by show 0 ≤ min (y.1 + (wdM (-1) ns m y.2 (k : Int)).1) 1000000; omega, by show min (y.1 + (wdM (-1) ns m y.2 (k : Int)).1) 1000000 ≤ 1000001; omega, hfk.2.2.1, hfk.2.2.2⟩, ?_⟩, by show K.length - (q + 1) < _; omega, ?_⟩
      · show (K.drop (q + 1)).foldl (wdK (wdM (-1) ns m)) (wdK (wdM (-1) ns m) y (k : Int)) = _
        rw [← hyf, List.drop_eq_getElem_cons hq', List.foldl_cons, hkk]
      · first | rfl | exact ⟨rfl, rfl⟩ | exact ⟨⟨rfl, rfl⟩, rfl⟩
    · have h3 : q = K.length := by omega
      subst h3
      rw [List.drop_length, List.foldl_nil] at hyf
      rw [← hyf] at hR
      obtain ⟨y1, y2, y3, y4⟩ := hyo
      rw [hQ]
      simp only [go_sem]
      refine Y_seq (Y_codeE fun E => ?_)
      simp only [go_sem]
      refine ⟨⟨by omega, by omega⟩, ?_⟩
      rw [if_min]
      rw [show (y.2.map i64).set i (.int .i64 (min y.1 1000000)) = (y.2.set i (min y.1 1000000)).map i64 by rw [List.map_set]]
      refine Y_codeE fun E => ?_
      simp only [go_sem]
      refine ⟨⟨by omega, by omega⟩, ?_⟩
      rw [ints_get (by rw [List.length_set]; omega), show (y.2.set i (min y.1 1000000)).getD i 0 = min y.1 1000000 by simp [List.getD_eq_getElem?_getD, y3, hi]]
      simp only [go_sem]
      rw [← hR]
      refine X_ret (.inl rfl) hB0 ?_
      simp only [go_sem]
      refine ⟨_, _, [101], id, ⟨rfl, rfl⟩, ?_⟩
      simp only [go_sem]
theorem closed_all {ns : List EN} (h : refClosed ns < 0) : ∀ j, j < ns.length → (ndE ns j).k = 4 → 0 ≤ (refB ns j).1 := fun j hj h4 => by
  refine Classical.byContradiction fun hn => ?_
  unfold refClosed at h
  cases hf : (List.range ns.length).find? (fun i => decide ((ndE ns i).k = 4) && decide ((refB ns i).1 < 0)) with
  | none =>
    have := List.find?_eq_none.1 hf j (List.mem_range.2 hj)
    simp [h4] at this
    omega
  | some i =>
    rw [hf] at h
    simp at h
    omega
set_option maxHeartbeats 1000000 in
theorem f65_ok {G} (ns : List EN) (ht : MayT ns) (hc : refClosed ns < 0) (hN : ns.length ≤ 1000000) (hl : ∀ n ∈ ns, n.l.length ≤ 900000) : HP Tryz.prog G 65 [exD ns] (fun r => r = .d (i64 (wvE ns (ns.length - 1)))) := by
  have hl' : ∀ n ∈ ns, n.l.length ≤ 1000000 := fun n hn => by have := hl n hn; omega
  have hp := ht.pos
  have c1 := f114_ok (G := G) ns ht hN hl'
  obtain ⟨hv, _⟩ := wdM_law (z := -1) (by decide) ht (rkE ns (ns.length - 1) + 1) (ns.length - 1) (by omega) (by omega) _ (kn_new (-1) ns)
  have hwb : Wb (List.replicate ns.length (-1)) := fun x hx => by rw [List.mem_replicate] at hx; omega
  have c3 := f115_ok (G := G) ns ht hN hl (closed_all hc) (rkE ns (ns.length - 1) + 1) (ns.length - 1) (List.replicate ns.length (-1)) (by omega) (by omega) (by simp) hwb
  have hWl := (wdM_ok (z := -1) (by decide) ns ns.length (rkE ns (ns.length - 1) + 1) (List.replicate ns.length (-1)) ((ns.length - 1 : Nat) : Int) (by simp) hwb).2.2.1
  rw [hv] at c3
  generalize (wdM (-1) ns (rkE ns (ns.length - 1) + 1) (List.replicate ns.length (-1)) ((ns.length - 1 : Nat) : Int)).2 = W at c3 hWl
  have hvp := wvE_pos ns (ns.length - 1)
  generalize wvE ns (ns.length - 1) = V at c3 hvp ⊢
  unfold exD at c1 c3 ⊢
  refine funZ_ok Tryz.func65 rfl (by decide +kernel) (by simp [Tryz.ntmps65]) (veil fun E => ?_)
  simp only [go_sem]
  refine e_call E (c1) rfl rfl (by simp) ?_
  rintro _ rfl
  simp only [go_sem]
  refine ⟨⟨by omega, by omega, by omega, by omega⟩, ?_⟩
  rw [show (List.replicate ns.length (D.int IntKind.i64 0)) = ((List.replicate 0 (-1) ++ List.replicate (ns.length - 0) 0 : List Int).map i64) by simp]
  refine loopO_e E (X := { i : Nat // i ≤ ns.length }) (fun x => [(1, .at [1] 0), (3, .d (.sl (some 2) ((refBs ns).map bD))), (5, .vw [12] 0 ns.length), (6, .d (i64 x.1))])
    (fun x => [([1], .box [.d (.sl (some 9) (ns.map enD))]), ([12], .arr none ((List.replicate x.1 (-1) ++ List.replicate (ns.length - x.1) 0 : List Int).map i64))]) [1, 12] (fun x => ns.length - x.1) ⟨0, Nat.zero_le _⟩ ?_ ?_
  · simp only [go_sem]
    all_goals first | rfl | exact ⟨rfl, rfl⟩
  rintro ⟨i, hi⟩ E0
  refine hideQ E0 fun Q' hQ E' => ?_
  simp only at hi ⊢
  simp only [go_sem]
  refine e_ifd E' (fun f1 => ?_) (fun f1 => ?_) <;> simp only [go_sem]
  · have hst : (List.replicate i (-1) ++ List.replicate (ns.length - i) 0 : List Int).set i (-1) = List.replicate (i + 1) (-1) ++ List.replicate (ns.length - (i + 1)) 0 := by
      rw [List.set_append_right _ _ (by simp), List.length_replicate, Nat.sub_self, show ns.length - i = (ns.length - (i + 1)) + 1 by omega, List.replicate_succ, List.set_cons_zero, List.replicate_succ', List.append_assoc]
      rfl
    refine ⟨⟨by omega, by omega⟩, ?_⟩
    rw [w64_in ⟨by omega, by omega⟩, show ((List.replicate i (-1) ++ List.replicate (ns.length - i) 0 : List Int).map i64).set i (.int .i64 (-1)) = (List.replicate (i + 1) (-1) ++ List.replicate (ns.length - (i + 1)) 0 : List Int).map i64 by rw [← hst, List.map_set], hQ]
    simp only [go_sem]
    refine ⟨⟨i + 1, by omega⟩, by show ns.length - (i + 1) < _; omega, ?_⟩
    first | rfl | exact ⟨rfl, rfl⟩
  · have h3 : i = ns.length := by omega
    subst h3
    rw [hQ, Nat.sub_self, List.replicate_zero, List.append_nil]
    simp only [go_sem]
    rw [w64_in ⟨by omega, by omega⟩]
    rw [show ((ns.length - 1 : Nat) : Int) = (ns.length : Int) - 1 by omega] at c3
    refine e_callS E (tau [([101], [12])]) _ _ _ c3 rfl (by simp only [go_sem]; try rfl) ⟨by simp only [go_sem], by first | (rw [mk_used]; decide) | (simp only [go_sem]; done) | (simp only [go_sem]; rw [mk_used]; decide) | (simp only [go_sem]; decide)⟩ rfl (by simp only [go_sem]; try rfl) (by simp only [go_sem]) ?_
    rintro _ _ ⟨rfl, rfl⟩
    refine ⟨by simp only [go_sem]; try simp; try omega, ?_⟩
    simp only [go_sem]
    rw [if_neg (by omega)]
    refine ⟨[], ?_⟩
    simp only [go_sem]
theorem f21_ok {G} (ns : List EN) (hs : ∀ n ∈ ns, SaneN BIG n) (hN : ns.length ≤ 1000000) (hl : ∀ n ∈ ns, n.l.length ≤ 900000) : HP Tryz.prog G 21 [exD ns] (fun r => r = .d (i64 (costE ns))) := by
  have hl' : ∀ n ∈ ns, n.l.length ≤ 1000000 := fun n hn => by have := hl n hn; omega
  have c1 := f64_ok (G := G) ns hs hN hl'
  unfold costE
  by_cases h0 : errE ns = 0
  · have hm : mayE ns = 0 := by
      refine Classical.byContradiction fun h => ?_
      unfold errE at h0
      rw [if_pos h] at h0
      exact h h0
    have hc : refClosed ns < 0 := by
      refine Classical.byContradiction fun h => ?_
      unfold errE at h0
      rw [if_neg (by simp [hm]), if_pos (by omega)] at h0
      exact absurd h0 (by decide)
    have c2 := f65_ok (G := G) ns (mayT hm) hc hN hl
    rw [if_pos h0]
    rw [h0] at c1
    unfold exD at c1 c2 ⊢
    refine funP_ok Tryz.func21 rfl (by decide +kernel) (by simp [Tryz.ntmps21]) (veil fun E => ?_)
    simp only [go_sem]
    refine e_call E (c1) rfl rfl (by simp) ?_
    rintro _ rfl
    simp only [go_sem]
    refine e_call E (c2) rfl rfl (by simp) ?_
    rintro _ rfl
    simp only [go_sem]
  · rw [if_neg h0]
    unfold exD at c1 ⊢
    refine funP_ok Tryz.func21 rfl (by decide +kernel) (by simp [Tryz.ntmps21]) (veil fun E => ?_)
    simp only [go_sem]
    refine e_call E (c1) rfl rfl (by simp) ?_
    rintro _ rfl
    simp only [go_sem]
    refine e_ifd E (fun _ => ?_) (fun h => absurd (by simpa using h) h0) <;> simp only [go_sem]
theorem f20_ok {G} (ns : List EN) (hs : ∀ n ∈ ns, SaneN BIG n) (hN : ns.length ≤ 1000000) (hl : ∀ n ∈ ns, n.l.length ≤ 900000) : HP Tryz.prog G 20 [exD ns] (fun r => r = .d (i64 (costE ns))) := by
  have c1 := f63_ok (G := G) ns hs hN hl
  unfold exD at c1 ⊢
  refine funP_ok Tryz.func20 rfl (by decide +kernel) (by simp [Tryz.ntmps20]) (veil fun E => ?_)
  simp only [go_sem]
  refine e_call E (c1) rfl rfl (by simp) ?_
  rintro _ rfl
  simp only [go_sem]
def bgD (b : Int × Int × Int × Int) : D := .agg [i64 b.1, i64 b.2.1, i64 b.2.2.1, i64 b.2.2.2]
theorem f66_ok {G} (ns : List EN) (hm : mayE ns = 0) (hs : ∀ n ∈ ns, SaneN BIG n) (hN : ns.length ≤ 1000000) (hl : ∀ n ∈ ns, n.l.length ≤ 900000) : HP Tryz.prog G 66 [exD ns] (fun r => r = .d (bgD (0, depthE ns, costE ns, 0))) := by
  have c1 := f116_ok (G := G) ns hs hN
  have c2 := f20_ok (G := G) ns hs hN hl
  rw [if_pos hm] at c1
  unfold bgD
  unfold exD at c1 c2 ⊢
  refine funZ_ok Tryz.func66 rfl (by decide +kernel) (by simp [Tryz.ntmps66]) (veil fun E => ?_)
  simp only [go_sem]
  refine region_xv mixed E fun X => ?_
  simp only [go_sem]
  refine x_call X c1 rfl rfl (by simp) ?_
  simp only [go_sem]
  refine x_call X c2 rfl rfl (by simp) ?_
  simp only [go_sem]
  refine ⟨by decide +kernel, [], ?_⟩
  simp only [go_sem]
def withB (ns : List EN) (b : Int × Int × Int × Int) : Int := if mayE ns ≠ 0 then mayE ns else if depthE ns > b.2.1 then 6 else if costE ns > b.2.2.1 then 8 else 0
theorem f22_ok {G} (ns : List EN) (b : Int × Int × Int × Int) (hs : ∀ n ∈ ns, SaneN BIG n) (hN : ns.length ≤ 1000000) (hl : ∀ n ∈ ns, n.l.length ≤ 900000) : HP Tryz.prog G 22 [exD ns, bgD b] (fun r => r = .d (i64 (withB ns b))) := by
  have c1 := f17_ok (G := G) ns hs hN
  generalize hR : withB ns b = R
  unfold withB at hR
  by_cases hm : mayE ns = 0
  · have c2 := f66_ok (G := G) ns hm hs hN hl
    rw [hm] at c1
    rw [if_neg (by simp [hm])] at hR
    unfold bgD at c2 ⊢
    unfold exD at c1 c2 ⊢
    refine funP_ok Tryz.func22 rfl (by decide +kernel) (by simp [Tryz.ntmps22]) (veil fun E => ?_)
    simp only [go_sem]
    refine e_call E (c1) rfl rfl (by simp) ?_
    rintro _ rfl
    simp only [go_sem]
    refine e_call E (c2) rfl rfl (by simp) ?_
    rintro _ rfl
    simp only [go_sem]
    refine e_ifd E (fun g1 => ?_) (fun g1 => ?_) <;> simp only [go_sem]
    · rw [if_pos g1] at hR
      rw [← hR]
    rw [if_neg g1] at hR
    refine e_ifd E (fun g2 => ?_) (fun g2 => ?_) <;> simp only [go_sem]
    · rw [if_pos g2] at hR
      rw [← hR]
    · rw [if_neg g2] at hR
      rw [← hR]
  · rw [if_pos hm] at hR
    rw [hR] at c1 hm
    unfold bgD
    unfold exD at c1 ⊢
    refine funP_ok Tryz.func22 rfl (by decide +kernel) (by simp [Tryz.ntmps22]) (veil fun E => ?_)
    simp only [go_sem]
    refine e_call E (c1) rfl rfl (by simp) ?_
    rintro _ rfl
    simp only [go_sem]
    refine e_ifd E (fun _ => ?_) (fun h => absurd (by simpa using h) hm) <;> simp only [go_sem]
theorem f23_ok {G} (ns : List EN) (b : Int × Int × Int × Int) (hs : ∀ n ∈ ns, SaneN BIG n) (hN : ns.length ≤ 1000000) (hl : ∀ n ∈ ns, n.l.length ≤ 900000) : HP Tryz.prog G 23 [exD ns, bgD b] (fun r => r = .d (i64 (withB ns b))) := by
  have c1 := f67_ok (G := G) ns hs hN
  generalize hR : withB ns b = R
  unfold withB at hR
  by_cases hm : mayE ns = 0
  · have ht := mayT hm
    have hp := ht.pos
    have c2 := f31_ok (G := G) ns hN (fun n hn => (hs n hn).l) (may_kids ht) ns.length (ns.length - 1) (by omega) (by omega)
    have c3 := f21_ok (G := G) ns hs hN hl
    rw [hm] at c1
    rw [if_neg (by simp [hm])] at hR
    rw [show ((ns.length - 1 : Nat) : Int) = (ns.length : Int) - 1 by omega, show (depsE ns []).getD (ns.length - 1) 0 = depthE ns from rfl] at c2
    unfold bgD
    unfold exD at c1 c2 c3 ⊢
    refine funP_ok Tryz.func23 rfl (by decide +kernel) (by simp [Tryz.ntmps23]) (veil fun E => ?_)
    simp only [go_sem]
    refine e_call E (c1) rfl rfl (by simp) ?_
    rintro _ rfl
    simp only [go_sem]
    refine region_xv mixed E fun X => ?_
    simp only [go_sem]
    rw [w64_in ⟨by omega, by omega⟩]
    refine x_call X c2 rfl rfl (by simp) ?_
    simp only [go_sem]
    refine ⟨by decide +kernel, ?_⟩
    refine e_ifd E (fun g1 => ?_) (fun g1 => ?_) <;> simp only [go_sem]
    · rw [if_pos g1] at hR
      rw [← hR]
    rw [if_neg g1] at hR
    refine region_xv mixed E fun X => ?_
    simp only [go_sem]
    refine x_call X c3 rfl rfl (by simp) ?_
    simp only [go_sem]
    refine ⟨by decide +kernel, ?_⟩
    refine e_ifd E (fun g2 => ?_) (fun g2 => ?_) <;> simp only [go_sem]
    · rw [if_pos g2] at hR
      rw [← hR]
    · rw [if_neg g2] at hR
      rw [← hR]
  · rw [if_pos hm] at hR
    rw [hR] at c1 hm
    unfold bgD
    unfold exD at c1 ⊢
    refine funP_ok Tryz.func23 rfl (by decide +kernel) (by simp [Tryz.ntmps23]) (veil fun E => ?_)
    simp only [go_sem]
    refine e_call E (c1) rfl rfl (by simp) ?_
    rintro _ rfl
    simp only [go_sem]
    refine e_ifd E (fun _ => ?_) (fun h => absurd (by simpa using h) hm) <;> simp only [go_sem]
def readS (s : List UInt8) (b : Int × Int × Int × Int) : List EN × Int × Int :=
  if (s.length : Int) > b.1 then ([], 0, 7) else if (parseS s).2.2 ≠ 0 then ([], (parseS s).2.1, (parseS s).2.2) else if withB (parseS s).1 b ≠ 0 then ([], 0, withB (parseS s).1 b) else ((parseS s).1, 0, 0)
theorem parse_wd {s : List UInt8} (hl : s.length ≤ 100000) (h : (parseS s).2.2 = 0) : ∀ n ∈ (parseS s).1, n.l.length ≤ 900000 := by
  obtain ⟨_, _, hl3, _⟩ := lex_in s
  unfold parseS at h ⊢
  split
  · rename_i g; rw [if_pos g] at h; exact absurd h g
  rename_i he
  rw [if_neg he] at h
  have g3 := (expr_good 100 (startS (lexS s).1 (lexS s).2.1)).wd
  have hx : ∀ n ∈ (exprS 100 (startS (lexS s).1 (lexS s).2.1)).1, n.l.length ≤ 900000 := fun n hn => by
    have := g3 n hn
    have h4 : (startS (lexS s).1 (lexS s).2.1).l.length = (lexS s).1.length := rfl
    omega
  unfold checkS at h ⊢
  repeat' split
  · exact fun _ h => by cases h
  · exact fun _ h => by cases h
  · exact fun _ h => by cases h
  · exact hx
theorem f26_ok {G} (s : List UInt8) (b : Int × Int × Int × Int) (hl : s.length ≤ 100000) : HP Tryz.prog G 26 [.str s, bgD b] (fun r => r = resD (readS s b)) := by
  have c1 := f15_ok (G := G) s hl
  have ho := parse_ok (s := s)
  have hsn := parse_sane (s := s) hl
  have hp := parse_wd (s := s) hl
  generalize hR : readS s b = R
  unfold readS at hR
  generalize parseS s = p at c1 ho hsn hR hp
  unfold bgD
  refine funZ_ok Tryz.func26 rfl (by decide +kernel) (by simp [Tryz.ntmps26]) (veil fun E => ?_)
  simp only [go_sem]
  refine e_ifd E (fun g1 => ?_) (fun g1 => ?_) <;> simp only [go_sem]
  · rw [if_pos g1] at hR
    rw [← hR]
    refine ⟨[], ?_⟩
    unfold resD
    simp only [go_sem]
  rw [if_neg g1] at hR
  by_cases h0 : p.2.2 = 0
  · obtain ⟨_, hm, hpp⟩ := ho h0
    obtain ⟨hN, hs⟩ := hsn h0
    have c2 := f22_ok (G := G) p.1 b hs hN (hp h0)
    rw [if_neg (by simp [h0])] at hR
    rw [show resD p = .tup [.d (.agg [.sl (some 9) (p.1.map enD)]), .d (i64 0), .d (i64 0)] by unfold resD exD; rw [if_pos h0, h0, hpp]] at c1
    obtain ⟨w, hw⟩ : ∃ w, w = withB p.1 b := ⟨_, rfl⟩
    rw [← hw] at c2 hR
    unfold bgD exD at c2
    refine e_call E (c1) rfl rfl (by simp) ?_
    rintro _ rfl
    simp only [go_sem]
    refine e_call E (c2) rfl rfl (by simp) ?_
    rintro _ rfl
    simp only [go_sem]
    refine e_ifd E (fun g2 => ?_) (fun g2 => ?_) <;> simp only [go_sem]
    · rw [if_pos g2] at hR
      rw [← hR]
      refine ⟨[], ?_⟩
      unfold resD
      simp only [go_sem]
      rw [if_neg (by simpa using g2)]
    · rw [if_neg g2] at hR
      rw [← hR]
      refine ⟨[], ?_⟩
      unfold resD
      simp only [go_sem]
      rfl
  · rw [if_pos h0] at hR
    rw [show resD p = .tup [.d (.agg [.nils]), .d (i64 p.2.1), .d (i64 p.2.2)] by unfold resD; rw [if_neg h0]] at c1
    refine e_call E (c1) rfl rfl (by simp) ?_
    rintro _ rfl
    simp only [go_sem]
    refine e_ifd E (fun _ => ?_) (fun h => absurd (by simpa using h) h0) <;> simp only [go_sem]
    rw [← hR]
    refine ⟨[], ?_⟩
    unfold resD
    simp only [go_sem]
    rw [if_neg h0]
def coT : List UInt8 := [108, 101, 116, 32, 120, 32, 61, 32, 49, 32, 105, 110, 32, 120]
theorem cost_ex : (readS coT (20, 5, 9, 0)).2.2 = 0 ∧ (readS coT (20, 5, 9, 0)).2.1 = 0 ∧ costE (readS coT (20, 5, 9, 0)).1 = 4 ∧ withB (readS coT (20, 5, 9, 0)).1 (0, 5, 3, 0) = 8 ∧ (parseS coT).2.2 = 0 ∧ (readS coT (20, 5, 9, 0)).1 = (parseS coT).1 := by
  have h : (parseS coT).2.2 = 0 ∧ withB (parseS coT).1 (20, 5, 9, 0) = 0 ∧ costE (parseS coT).1 = 4 ∧ withB (parseS coT).1 (0, 5, 3, 0) = 8 := by
    decide +kernel
  obtain ⟨h1, h2, h3, h4⟩ := h
  have e : readS coT (20, 5, 9, 0) = ((parseS coT).1, 0, 0) := by
    unfold readS
    rw [if_neg (by decide), if_neg (by simp [h1]), if_neg (by simp [h2])]
  rw [e]
  exact ⟨rfl, rfl, h3, h4, h1, rfl⟩
theorem f24_ok {G} : HP Tryz.prog G 24 [] (fun r => r = .d (.bool true)) := by
  have c1 := f26_ok (G := G) coT (20, 5, 9, 0) (by decide)
  obtain ⟨h1, h2, h3, h4, h5, h6⟩ := cost_ex
  obtain ⟨hN, hs⟩ := parse_sane (s := coT) (by decide) h5
  have hl := parse_wd (s := coT) (by decide) h5
  generalize readS coT (20, 5, 9, 0) = R at c1 h1 h2 h3 h4 h6
  rw [← h6] at hN hs hl
  have he : resD R = .tup [.d (.agg [.sl (some 9) (R.1.map enD)]), .d (i64 0), .d (i64 0)] := by unfold resD exD; rw [if_pos h1, h1, h2]
  have c2 := f20_ok (G := G) R.1 hs hN hl
  have c3 := f22_ok (G := G) R.1 (0, 5, 3, 0) hs hN hl
  rw [he] at c1
  rw [h3] at c2
  rw [h4] at c3
  unfold coT bgD at c1
  unfold exD at c2
  unfold exD bgD at c3
  refine funP_ok Tryz.func24 rfl (by decide +kernel) (by simp [Tryz.ntmps24]) (veil fun E => ?_)
  simp only [go_sem]
  refine e_call E (c1) rfl rfl (by simp) ?_
  rintro _ rfl
  simp only [go_sem]
  refine e_call E (c2) rfl rfl (by simp) ?_
  rintro _ rfl
  simp only [go_sem]
  refine e_call E (c3) rfl rfl (by simp) ?_
  rintro _ rfl
  simp only [go_sem]
theorem f4_ex {G} (ns : List EN) (b : Int × Int × Int × Int) (hl : ns.length ≤ maxLen) (hn : ∀ n ∈ ns, InN n) : HP Tryz.prog G 4 [exD ns, bgD b] (fun r => r = .d (.bool true)) := by
  obtain ⟨N, hN⟩ : ∃ N, N = fewE ns := ⟨_, rfl⟩
  have hin : InF N := by rw [hN]; exact few_in hn
  have c0 := f19_ok (G := G) ns hl (fun n h => (hn n h).2.2.1)
  have c1 := f19_again (G := G) hin (by rw [hN, few_few])
  rw [← hN] at c0
  have hs : ∀ n ∈ N, SaneN BIG n := fun n h => (hin.2 n h).1
  have hlN : N.length ≤ 1000000 := by have := hin.1; omega
  have hll : ∀ n ∈ N, n.l.length ≤ 900000 := fun n h => by have := (hin.2 n h).2; omega
  have c2 := f20_ok (G := G) N hs hlN hll
  have c3 := f21_ok (G := G) N hs hlN hll
  have c4 := f22_ok (G := G) N b hs hlN hll
  have c5 := f23_ok (G := G) N b hs hlN hll
  generalize costE N = c at c2 c3
  generalize withB N b = w at c4 c5
  unfold bgD at c4 c5 ⊢
  unfold exD at c0 c1 c2 c3 c4 c5 ⊢
  refine funP_ok Tryz.func4 rfl (by decide +kernel) (by simp [Tryz.ntmps4]) (veil fun E => ?_)
  simp only [go_sem]
  refine e_call E (c0) rfl rfl (by simp) ?_
  rintro _ rfl
  simp only [go_sem]
  refine region_xv mixed E fun X => ?_
  simp only [go_sem]
  refine x_call X c1 rfl rfl (by simp) ?_
  simp only [go_sem]
  refine x_call X c2 rfl rfl (by simp) ?_
  simp only [go_sem]
  refine x_call X c3 rfl rfl (by simp) ?_
  simp only [go_sem]
  refine x_call X c1 rfl rfl (by simp) ?_
  simp only [go_sem]
  refine x_call X c4 rfl rfl (by simp) ?_
  simp only [go_sem]
  refine x_call X c5 rfl rfl (by simp) ?_
  simp only [go_sem]
  refine x_call X f24_ok rfl rfl (by simp) ?_
  simp only [go_sem]
  decide +kernel
theorem f4_ok {G} {ds : List D} {ns : List EN} (b : Int × Int × Int × Int) (hw : Wk (.agg ds) (exD ns)) (hl : ns.length ≤ maxLen) (hn : ∀ n ∈ ns, InN n) : HP Tryz.prog G 4 [.agg ds, bgD b] (fun r => r = .d (.bool true)) :=
  (f4_ex ns b hl hn).wk ⟨hw, .refl _, trivial⟩
end Go.Proofs.YtejpnabbmgpmaaaGreat
