/-
  The generic layer, part 31: ranges over strings behind the veil; lesser states by evaluation.
-/
import Derived.Test.YtmplpdjddjiioaaDoorG4
namespace Go.Ab
section
variable {P : Program} {cf : Cf} {Q : Exit → St → Prop} (E : Eng P cf Q) {s : St} {k : List It}
theorem e_ranges {xt : Nat} {x : Operand} {t : Nat} {ty : TypeId} {pos : String} {af : Array Edge} (l : List UInt8) (hs : (P.ti xt).k = .str) (hx : ev s x = .d (.str l)) (ht : t < cf.n) (hu : t ∉ s.used)
    (hk : E.run k ((s.add t (.siter l 0)).put t (.it [t]))) :
    E.stp .no { dst := some t, op := .range xt x, type := ty, pos := pos, after := af, guard := none } s k := by
  rw [e_stp_no]
  exact range_str hs hx ht hu (by rw [← E.run_eq]; exact hk)
theorem e_nexts {x : Operand} {t : Nat} {ty : TypeId} {ps : String} {af : Array Edge} (p : Name) (l : List UInt8) (pos : Nat) (hx : ev s x = .it p) (hp : s.hp p = some (.siter l pos)) (ht : t < cf.n)
    (h1 : pos < l.length → E.run k ((s.set p (some (.siter l (pos + (Utf8.decode ⟨l.toArray⟩ pos).2)))).put t (.tup [.d (.bool true), .d (.int .i64 pos), .d (.int .i32 (Utf8.decode ⟨l.toArray⟩ pos).1)])))
    (h2 : ¬ pos < l.length → E.run k (s.put t (.tup [.d (.bool false)]))) :
    E.stp .no { dst := some t, op := .next x true, type := ty, pos := ps, after := af, guard := none } s k := by
  rw [e_stp_no]
  exact next_str hx hp ht (fun h => by rw [← E.run_eq]; exact h1 h) (fun h => by rw [← E.run_eq]; exact h2 h)
theorem e_convb {src dst' e : Nat} {x : Operand} {t : Nat} {ty : TypeId} {pos : String} {af : Array Edge} (bs : List UInt8) (hs : (P.ti src).k = .slice e) (he : (P.ti e).k = .int .u8) (hd : (P.ti dst').k = .str)
    (hl : listOf none s.hp (ev s x) = some (bs.map fun b => .int .u8 b.toNat)) (ht : t < cf.n) (hk : E.run k (s.put t (.d (.str bs)))) :
    E.stp .no { dst := some t, op := .convert src dst' x, type := ty, pos := pos, after := af, guard := none } s k := by
  rw [e_stp_no]
  exact conv_bytes bs hs he hd hl ht (by rw [← E.run_eq]; exact hk)
end
theorem nmb_cons (u : List Nat) (h : Nat) (t : Name) : nmb u (h :: t) = u.contains h := rfl
attribute [go_sem] LeL frL hpL injL stayL AV.ren Ob.ren renL Ob.inU nmb_cons id_eq List.contains_cons List.contains_nil Bool.or_true Bool.true_or Bool.or_false Bool.false_or
end Go.Ab
