/-
  The generic layer, part 47: a slice of structs that the library sorts.
-/
import Derived.Test.YtmplpdjddjiioaaI3
import Derived.Shelf.SlSortCmp.WholeK
set_option linter.all false
namespace Go.Ab
open Go.Sort Go.Lib Go.Proofs Go.Shelf Go.RowKit
/-- Memory has grown, and what was there is as it was: all stands. -/
theorem Sim.grown {B : Base} {β : Name → Option Blk} {s : St} {tm : Array Value} {w w' : World} (h : Sim B β s tm w) (hs : w.heap.size ≤ w'.heap.size) (ho : ∀ b, b < w.heap.size → w'.heap[b]? = w.heap[b]?) (hio : wio w' = wio w) : Sim B β s tm w' := by
  have hr : ∀ v d, Rep w.heap (s.own B.A β) v d → Rep w'.heap (s.own B.A β) v d := fun v d hd => hd.mono (fun b _ hb => ho b hb) (fun _ _ h => h)
  have hst : ∀ p, nm s.used p → Stays s.hp s.hp β β p := fun p _ o' ho' => ⟨o', ho', Ob.like_refl _, rfl⟩
  refine { tms := h.tms, io := hio.trans h.io, size := Nat.le_trans h.size hs, frame := fun b hb hn => (ho b (Nat.lt_of_lt_of_le hb h.size)).trans (h.frame b hb hn), slots := fun t => (h.slots t).mono hr (fun _ h => h) hst, objs := fun p o ho' => ?_, blocks := fun p k hp hk => ?_, inj := h.inj, us := h.us, stay := h.stay }
  · obtain ⟨h1, h2⟩ := h.objs p o ho'
    exact ⟨h1, h2.mono hr (fun _ h => h) hst rfl fun k hk => ho k.b (h.blocks p k (by rw [ho']; simp) hk).1⟩
  · obtain ⟨h1, h2⟩ := h.blocks p k hp hk
    exact ⟨Nat.lt_of_lt_of_le h1 hs, h2⟩
theorem vals_len : ∀ {l : List D} {vs : List Value}, vals l = some vs → ∀ d ∈ l, d.scal = true
  | [], _, _, d, hd => by cases hd
  | x :: r, vs, h, d, hd => by
    simp only [vals] at h
    split at h
    · rename_i v vs' h1 h2
      rcases List.mem_cons.1 hd with rfl | hd
      · cases d <;> simp [D.val] at h1 <;> rfl
      · exact vals_len h2 d hd
    · cases h
section
variable {P : Program} {α : Type} [Inhabited α]
/-- A slice of structs, sorted by the library: out of the shelf's contract. -/
theorem sort_bridge {G : List (Nat × Obj)} {f g k : Nat} (hk0 : 0 < k) (enc : α → List Value) (encD : α → List D) (lt : α → α → Bool) (hlen : ∀ x, (encD x).length = k) (hval : ∀ x, vals (encD x) = some (enc x))
    (he : ∀ vs w, (callFunc f vs).run P w = .ok (.enter f vs) w)
    (hcon : ∀ (blk off cap : Nat) (d : Array α) (w : World), HoldsK enc k w blk off d → blk < w.heap.size → d.size < 4611686018427387904 → Calls P f #[.slice (some ⟨blk, off, none⟩) d.size cap, .func (.func g) #[] #[]] w fun e w' =>
      e = .returned (.tuple #[]) ∧ ∃ d' n os, PermIn 0 d.size d d' ∧ SortedIn lt 0 d.size d' ∧ w' = sortWorldK enc k w blk off n d' os)
    (hnone : ∀ (p : Option Addr) (cap : Nat) (w : World), Calls P f #[.slice p 0 cap, .func (.func g) #[] #[]] w fun e w' => e = .returned (.tuple #[]) ∧ w' = w)
    (a : Nat) (l : List α) (hl : l.length < 4611686018427387904) :
    HCall P G f [.vw [a] 0 l.length, .clo g []] [([a], .arr (some k) (l.map fun x => .agg (encD x)))] [a] (fun r hp' => r = .tup [] ∧ ∃ l' : List α, l'.Perm l ∧ l'.Pairwise (fun x y => lt y x = false) ∧ hp' = [([a], .arr (some k) (l'.map fun x => .agg (encD x)))]) := by
  refine ⟨he, fun B β vs w h1 h2 h3 h4 hs => ?_⟩
  have hsz : vs.size = 2 := by rw [hs.tms, h1]; rfl
  obtain ⟨v0, v1, rfl⟩ : ∃ v0 v1, vs = #[v0, v1] := by
    rcases vs with ⟨_ | ⟨x, _ | ⟨y, _ | ⟨z, r⟩⟩⟩⟩ <;> simp at hsz
    exact ⟨x, y, rfl⟩
  have hs0 := hs.slots 0
  have hs1 := hs.slots 1
  have hhp : (mk (argsFr 0 [.vw [a] 0 l.length, .clo g []]) [([a], .arr (some k) (l.map fun x => .agg (encD x)))] [a]).hp [a] = some (.arr (some k) (l.map fun x => .agg (encD x))) := by simp [mk, lkA]
  have e0 : (#[v0, v1] : Array Value).getD 0 undef = v0 := rfl
  have e1 : (#[v0, v1] : Array Value).getD 1 undef = v1 := rfl
  rw [e0] at hs0
  rw [e1] at hs1
  have hv1 : v1 = .func (.func g) #[] #[] := by
    have hs1' : VR w.heap _ _ _ β v1 (.clo g []) := hs1
    cases hs1' with
    | clo _ vs _ hz _ =>
      have : vs = #[] := Array.eq_empty_of_size_eq_zero (by simpa using hz)
      rw [this]
  obtain ⟨av, cap, hv0, hv0'⟩ : ∃ av cap, v0 = .slice av l.length cap ∧ (l.length = 0 ∧ cap = 0 ∨ ∃ kk, β [a] = some kk ∧ av = some ⟨kk.b, kk.o + 0 * wd (some k), none⟩ ∧ l.length ≤ cap ∧ kk.o + (0 + cap) * wd (some k) ≤ kk.z) := by
    have hs0' : VR w.heap _ _ _ β v0 (.vw [a] 0 l.length) := hs0
    cases hs0' with
    | vw _ _ _ _ _ _ h => exact (h _ _ hhp).2
  subst hv1 hv0
  by_cases hl0 : l = []
  · subst hl0
    refine ((callsIn_wide (n := 0)).2 (hnone av cap w)).mono ?_
    rintro e w' ⟨rfl, rfl⟩
    refine ⟨_, .tup [], _, [a], β, rfl, ⟨rfl, [], .refl _, .nil, rfl⟩, ?_⟩
    refine { tms := rfl, io := hs.io, size := hs.size, frame := hs.frame, slots := fun t => ?_, objs := hs.objs, blocks := hs.blocks, inj := hs.inj, us := hs.us, stay := hs.stay }
    rw [mk_fr, lkA_cons, lkA_nil]
    by_cases ht : t = 0
    · subst ht
      rw [if_pos rfl]
      exact .tup _ _ rfl fun i x hi => by simp at hi
    · rw [if_neg ht]; exact .un _
  have hpos : 0 < l.length := List.length_pos_iff.2 hl0
  obtain ⟨kk, hkk, rfl, hcap, hz⟩ := hv0'.resolve_left (by omega)
  obtain ⟨k', c, e, hk', hc, hcz, hlz, hw, hrep⟩ := ((hs.objs [a] _ hhp).2).resolve_left (fun h => by rw [hkk] at h; cases h.1)
  obtain rfl := Option.some.inj (hkk.symm.trans hk')
  have hblk := lt_of_some hc
  have hwd : wd (some k) = k := rfl
  rw [hwd] at hlz hrep hz
  rw [List.length_map] at hlz
  have hcell : ∀ i j, i < l.length → j < k → c.getD (kk.o + i * k + j) undef = (enc l.toArray[i]!)[j]! := by
    intro i j hi hj
    have h1 : (l.map fun x => D.agg (encD x))[i]? = some (.agg (encD l[i])) := by simp [hi]
    have hj' : j < (encD l[i]).length := by rw [hlen]; exact hj
    have h2 := hrep i _ j (encD l[i])[j] h1 (List.getElem?_eq_getElem hj')
    obtain ⟨g1, g2⟩ := vals_get (hval l[i])
    have g3 := g2 j _ (List.getElem?_eq_getElem hj')
    have hj2 : j < (enc l[i]).length := by rw [g1]; exact hj'
    rw [List.getElem?_eq_getElem hj2] at g3
    have := h2.val g3
    rw [this]
    simp [hi, hj2]
  have hH : HoldsK enc k w kk.b kk.o l.toArray := by
    intro t ht
    rw [size_flatK] at ht
    have ht : t < l.length * k := by simpa using ht
    rw [get_flatK enc k l.toArray t (by simpa using ht)]
    have hi : t / k < l.length := Nat.div_lt_of_lt_mul (by rw [Nat.mul_comm]; exact ht)
    have hj : t % k < k := Nat.mod_lt _ hk0
    have hdm : t / k * k + t % k = t := by rw [Nat.mul_comm]; exact Nat.div_add_mod t k
    have := hcell (t / k) (t % k) hi hj
    rw [Nat.add_assoc, hdm] at this
    have hlt : kk.o + t < c.size := by omega
    refine ⟨?_, ?_⟩
    · simp only [World.cell?, hc]
      rw [← this]
      simp [Array.getD_eq_getD_getElem?, hlt]
    · simp [World.frozen?, hc]
  have hsa : (l.toArray).size = l.length := by simp
  have hcl := (callsIn_wide (n := 0)).2 (hcon kk.b kk.o cap l.toArray w hH hblk (by rw [hsa]; exact hl))
  rw [hsa] at hcl
  have e3 : (⟨kk.b, kk.o + 0 * wd (some k), none⟩ : Addr) = ⟨kk.b, kk.o, none⟩ := by rw [Nat.zero_mul, Nat.add_zero]
  rw [e3]
  refine hcl.mono ?_
  rintro _ w' ⟨rfl, d', n, os, hp, hsd, rfl⟩
  obtain ⟨hd1, hd2, hd3⟩ := hp
  rw [hsa] at hd1
  have hperm : d'.toList.Perm l := by
    have e4 : (d'.extract 0 l.length).toList = d'.toList := by rw [← hd1]; simp
    have e5 : (l.toArray.extract 0 l.length).toList = l := by simp
    rw [e4, e5] at hd3
    exact hd3
  have hsrt : d'.toList.Pairwise (fun x y => lt y x = false) := by
    rw [List.pairwise_iff_getElem]
    intro i j hi hj hij
    have := hsd i j (Nat.zero_le _) hij (by simpa [hd1] using hj)
    have hi' : i < d'.size := by simpa using hi
    have hj' : j < d'.size := by simpa using hj
    rw [getElem!_pos d' i hi', getElem!_pos d' j hj'] at this
    simpa using this
  refine ⟨_, .tup [], _, [a], β, rfl, ⟨rfl, d'.toList, hperm, hsrt, rfl⟩, ?_⟩
  -- the row, laid anew
  have hdl : d'.toList.length = l.length := by simp [hd1]
  have hlike : (Ob.arr (some k) (l.map fun x => D.agg (encD x))).like (.arr (some k) (d'.toList.map fun x => D.agg (encD x))) := by
    refine ⟨rfl, ?_⟩
    simp only [List.length_map, hdl]
    exact Nat.le_refl _
  have hw1 : (putRow id (Go.Sort.ahead w n) kk.b kk.o (flatK enc k d')).heap = w.heap.modify kk.b (onCells (putCells id kk.o (flatK enc k d'))) := rfl
  obtain ⟨hsim, _⟩ := hs.modify (p := [a]) (ob' := .arr (some k) (d'.toList.map fun x => .agg (encD x))) hhp hlike (w' := putRow id (Go.Sort.ahead w n) kk.b kk.o (flatK enc k d')) rfl (by rw [hw1]; simp)
    (fun b hb => by
      have := hb kk hkk
      rw [hw1, Array.getElem?_modify, if_neg (Ne.symm this)])
    (fun _ _ => by
      refine .inr ⟨kk, putCells id kk.o (flatK enc k d') c, e, hkk, ?_, ?_, ?_, ?_, ?_⟩
      · rw [hw1, Array.getElem?_modify, if_pos rfl, hc]; rfl
      · simp [putCells, hcz]
      · simp only [List.length_map, hdl, hwd]; omega
      · intro x hx
        obtain ⟨y, _, rfl⟩ := List.mem_map.1 hx
        exact ⟨hlen y, vals_len (hval y)⟩
      · intro i x j dd hi hj
        rw [List.getElem?_map, Option.map_eq_some_iff] at hi
        obtain ⟨y, hy, rfl⟩ := hi
        have hil : i < l.length := by
          have := (List.getElem?_eq_some_iff.1 hy).1
          omega
        have hj : (encD y)[j]? = some dd := hj
        have hjl : j < k := by rw [← hlen y]; exact (List.getElem?_eq_some_iff.1 hj).1
        obtain ⟨g1, g2⟩ := vals_get (hval y)
        have g3 := g2 j dd hj
        have hik : i * k + j < l.length * k := by
          have : (i + 1) * k ≤ l.length * k := Nat.mul_le_mul_right k hil
          rw [Nat.add_mul, Nat.one_mul] at this
          omega
        have hlt : kk.o + i * k + j < c.size := by omega
        have hget : (putCells id kk.o (flatK enc k d') c).getD (kk.o + i * wd (some k) + j) undef = (enc y)[j]! := by
          rw [hwd]
          have h5 : (flatK enc k d')[i * k + j]! = (enc d'[i]!)[j]! := by
            rw [get_flatK enc k d' _ (by rw [hd1]; exact hik)]
            have h6 : (i * k + j) / k = i := by rw [Nat.add_comm, Nat.add_mul_div_right _ _ hk0, Nat.div_eq_of_lt hjl, Nat.zero_add]
            have h7 : (i * k + j) % k = j := by rw [Nat.add_comm, Nat.add_mul_mod_self_right, Nat.mod_eq_of_lt hjl]
            rw [h6, h7]
          have h8 : d'[i]! = y := by
            have h9 : i < d'.size := by rw [hd1]; exact hil
            rw [getElem!_pos d' i h9]
            have : d'.toList[i]? = some d'[i] := by simp [h9]
            rw [this] at hy
            exact Option.some.inj hy
          simp only [putCells, Array.getD_eq_getD_getElem?, Array.getElem?_mapIdx, Array.getElem?_eq_getElem hlt, Option.map_some, Option.getD_some]
          rw [if_pos ⟨by omega, by rw [size_flatK, hd1]; omega⟩, show kk.o + i * k + j - kk.o = i * k + j by omega, h5, h8]
          rfl
        rw [hget]
        have hj2 : j < (enc y).length := by rw [g1, hlen]; exact hjl
        rw [List.getElem?_eq_getElem hj2] at g3
        rw [getElem!_pos (enc y) j hj2]
        exact D.val_rep g3)
  have hgr := hsim.grown (w' := grow (putRow id (Go.Sort.ahead w n) kk.b kk.o (flatK enc k d')) os) (by simp) (fun b hb => heap_grow_old _ _ hb) rfl
  have hst : (mk (argsFr 0 [.vw [a] 0 l.length, .clo g []]) [([a], .arr (some k) (l.map fun x => .agg (encD x)))] [a]).set [a] (some (.arr (some k) (d'.toList.map fun x => .agg (encD x)))) = mk (argsFr 0 [.vw [a] 0 l.length, .clo g []]) [([a], .arr (some k) (d'.toList.map fun x => .agg (encD x)))] [a] := by
    rw [mk_set]
    simp [insA]
  rw [hst] at hgr
  refine { tms := rfl, io := hgr.io, size := hgr.size, frame := hgr.frame, slots := fun t => ?_, objs := hgr.objs, blocks := hgr.blocks, inj := hgr.inj, us := hgr.us, stay := hgr.stay }
  rw [mk_fr, lkA_cons, lkA_nil]
  by_cases ht : t = 0
  · subst ht
    rw [if_pos rfl]
    exact .tup _ _ rfl fun i x hi => by simp at hi
  · rw [if_neg ht]; exact .un _
end
end Go.Ab
