/-
  The generic layer, part 25: more operations: bytes to a string.
-/
import Derived.Test.YtmplpdjddjiioaaDoorC7
import Derived.Laws.BytesString
namespace Go.Ab
section
variable {P : Program} {cf : Cf}

/-- An operation that yields a value and turns no memory. -/
theorem aok_val {s : St} {k : List It} {Q : Exit → St → Prop} {o : Oper} {t : Nat} (hd : o.dst = some t) (ht : t < cf.n) (hnd : ∀ c, o.op ≠ .defer c) (x : AV)
    (h : ∀ (B : Base) (β : Name → Option Blk) (a : Act) (w : World), Sim B β s a.tmps w → ∃ v, (execOp a.eval o).run P w = .ok (.value v) w ∧ VR w.heap (s.own B.A β) s.used s.hp β v x) (hk : run P cf k Q (s.put t x)) : AOk P cf o s k Q := by
  intro B hB ds β a w hds hs Q'
  obtain ⟨v, hrun, hv⟩ := h B β a w hs
  refine wpIn_of_run hnd hrun (.inl rfl) ⟨by rw [hd]; exact hds, s.put t x, β, run_ok hk, ?_⟩
  rw [hd]
  exact hs.put (by rw [hB.1]; exact ht) hv

theorem foldl_push (bs : List UInt8) : ∀ acc : List UInt8, (bs.map fun b => ((b.toNat : Nat) : Int)).foldl (fun (r : ByteArray) n => r.push (UInt8.ofNat n.toNat)) ⟨acc.toArray⟩ = ⟨(acc ++ bs).toArray⟩ := by
  induction bs with
  | nil => intro acc; simp
  | cons b r ih =>
    intro acc
    simp only [List.map_cons, List.foldl_cons]
    have : (ByteArray.push ⟨acc.toArray⟩ (UInt8.ofNat ((b.toNat : Nat) : Int).toNat)) = ⟨(acc ++ [b]).toArray⟩ := by
      simp [ByteArray.push]
    rw [this, ih]
    simp

/-- '[]byte' to a string. -/
theorem conv_bytes {s : St} {k : List It} {Q : Exit → St → Prop} {src dst' e : Nat} {x : Operand} {t : Nat} {ty : TypeId} {pos : String} {af : Array Edge} (bs : List UInt8) (hs : (P.ti src).k = .slice e) (he : (P.ti e).k = .int .u8) (hd : (P.ti dst').k = .str)
    (hl : listOf none s.hp (ev s x) = some (bs.map fun b => .int .u8 b.toNat)) (ht : t < cf.n) (hk : run P cf k Q (s.put t (.d (.str bs)))) :
    AOk P cf { dst := some t, op := .convert src dst' x, type := ty, pos := pos, after := af, guard := none } s k Q := by
  refine aok_val rfl ht (by simp) _ (fun B β a w h => ?_) hk
  obtain ⟨news, hseg⟩ := listOf_sound (P := P) h (h.ev x) hl
  obtain ⟨ad, cap, hv⟩ := hseg.len
  have hnews : news = (bs.map fun b => ((b.toNat : Nat) : Int)).map (Value.int .u8) := by
    have hsz := hseg.size
    simp only [wd, Nat.mul_one, List.length_map] at hsz
    apply List.ext_getElem (by simp [hsz])
    intro i h1 h2
    have := hseg.rep i (.int .u8 (bs.getD i 0).toNat) 0 (.int .u8 (bs.getD i 0).toNat) (by
      have : i < bs.length := by omega
      simp [this]) rfl
    simp only [wd, Nat.mul_one, Nat.add_zero] at this
    have hv := this.val rfl
    have hi : i < bs.length := by omega
    simp [h1, hi] at hv
    simp [hv]
  have hrun := hseg.run w rfl
  rw [hv] at hrun
  refine ⟨.string ⟨bs.toArray⟩, ?_, .d _ _ (.str _)⟩
  have hc : (convert src dst' (a.eval x)).run P w = .ok (.string ⟨bs.toArray⟩) w := by
    rw [hv, run_convert_bytes_string w src dst' e ad _ cap (ti_slice hs) (ti_int he) (ti_str hd)]
    cases ad with
    | none =>
      have hn : news = [] := by simpa [Builtin.firstCells] using hrun
      rw [hn] at hnews
      have : bs = [] := by
        cases bs with
        | nil => rfl
        | cons b r => simp at hnews
      subst this
      rfl
    | some ad =>
      have hload : (loadCells ad (bs.map fun b => D.int .u8 b.toNat).length).run P w = .ok ((bs.map fun b => ((b.toNat : Nat) : Int)).map (Value.int .u8)).toArray w := by
        rw [← hnews]
        simpa [Builtin.firstCells, wd] using hrun
      rw [run_bytesToString w ad _ cap _ hload]
      have := foldl_push bs []
      simp only [List.nil_append] at this
      rw [show (ByteArray.empty) = ⟨([] : List UInt8).toArray⟩ from rfl, this]
  show (do pure (Next.value (← convert src dst' (a.eval x))) : Sem Next).run P w = _
  rw [Sem.run_bind, hc]; rfl
end
end Go.Ab
