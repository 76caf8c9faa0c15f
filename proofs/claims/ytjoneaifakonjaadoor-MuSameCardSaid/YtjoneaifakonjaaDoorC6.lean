/-
  Numbers that wrap: plain laws. (with the parts that follow it)
-/
import Derived.Test.YtjoneaifakonjaaDoorC3
import Derived.Attr
import Derived.Below
set_option linter.all false
/-! ### Numbers that wrap: plain laws. -/
namespace Go.Ab
abbrev i64 (n : Int) : D := .int .i64 n
def inR (n : Int) : Prop := -9223372036854775808 ≤ n ∧ n ≤ 9223372036854775807
def w64 (n : Int) : Int := IntKind.i64.wrap n
def u64 (n : Int) : Int := IntKind.u64.wrap n
theorem wrap_i64 (n : Int) : IntKind.i64.wrap n = w64 n := rfl
theorem wrap_u64 (n : Int) : IntKind.u64.wrap n = u64 n := rfl
theorem u64_def (n : Int) : u64 n = n % 18446744073709551616 := by simp [u64, IntKind.wrap, IntKind.bits, IntKind.signed]
theorem w64_def (n : Int) : w64 n = if n % 18446744073709551616 ≥ 9223372036854775808 then n % 18446744073709551616 - 18446744073709551616 else n % 18446744073709551616 := by
  simp [w64, IntKind.wrap, IntKind.bits, IntKind.signed]
theorem w64_in {n : Int} (h : inR n) : w64 n = n := by
  obtain ⟨h1, h2⟩ := h
  rw [w64_def]; split <;> omega
theorem in_w64 (n : Int) : inR (w64 n) := by
  rw [w64_def]; constructor <;> split <;> omega
theorem w64_mod {a b : Int} (h : a % 18446744073709551616 = b % 18446744073709551616) : w64 a = w64 b := by
  rw [w64_def, w64_def, h]
theorem w_u (n : Int) : w64 (u64 n) = w64 n := w64_mod (by rw [u64_def]; omega)
theorem w_u_add (a b : Int) : w64 (u64 (u64 a + u64 b)) = w64 (a + b) := w64_mod (by simp only [u64_def]; omega)
theorem w_u_sub (a b : Int) : w64 (u64 (u64 a - u64 b)) = w64 (a - b) := w64_mod (by simp only [u64_def]; omega)
theorem w_u_neg (q : Int) : w64 (u64 (0 - u64 q)) = w64 (-q) := w64_mod (by simp only [u64_def]; omega)
theorem w_u_mul (a b : Int) : w64 (u64 (u64 a * u64 b)) = w64 (a * b) := w64_mod (by
  simp only [u64_def]
  rw [Int.emod_emod_of_dvd _ (Int.dvd_refl _), ← Int.mul_emod])
theorem u64_nonneg {a : Int} (h : inR a) (h0 : ¬ a < 0) : u64 a = a := by obtain ⟨h1, h2⟩ := h; rw [u64_def]; omega
theorem u64_neg {a : Int} (h : inR a) (h0 : a < 0) : u64 (0 - u64 a) = -a := by obtain ⟨h1, h2⟩ := h; simp only [u64_def]; omega
def divZ (a b : Int) : Int := if b = 0 then 0 else w64 (a.tdiv b)
def divE (b : Int) : Int := if b = 0 then 9 else 0
end Go.Ab
/-! ### The generic layer, part 21: states in written form, for evaluation. -/
namespace Go.Ab

def insA {α β : Type} [DecidableEq α] : List (α × β) → α → β → List (α × β)
  | [], i, x => [(i, x)]
  | q :: r, i, x => if i = q.1 then (i, x) :: r else q :: insA r i x
def delA {α β : Type} [DecidableEq α] : List (α × β) → α → List (α × β)
  | [], _ => []
  | q :: r, i => if i = q.1 then delA r i else q :: delA r i
theorem lkA_ins {α β : Type} [DecidableEq α] (z : β) (i : α) (x : β) (j : α) : ∀ l : List (α × β), lkA z (insA l i x) j = if j = i then x else lkA z l j
  | [] => by simp [insA, lkA]
  | q :: r => by
    simp only [insA]
    split
    · rename_i e; subst e; simp only [lkA]; split <;> rfl
    · rename_i e
      simp only [lkA, lkA_ins z i x j r]
      by_cases h1 : j = q.1
      · rw [if_pos h1, if_pos h1, if_neg (fun e2 => e (e2.symm.trans h1))]
      · rw [if_neg h1, if_neg h1]
theorem map_ins (i : Name) (x : Ob) : ∀ l : List (Name × Ob), (insA l i x).map (fun q => (q.1, some q.2)) = insA (l.map fun q => (q.1, some q.2)) i (some x)
  | [] => rfl
  | q :: r => by
    simp only [insA, List.map_cons]
    split
    · rfl
    · rw [List.map_cons, map_ins i x r]
theorem lkA_del {α β : Type} [DecidableEq α] (z : β) (i : α) (j : α) : ∀ l : List (α × β), lkA z (delA l i) j = if j = i then z else lkA z l j
  | [] => by simp [delA, lkA]
  | q :: r => by
    simp only [delA]
    split
    · rename_i e
      rw [lkA_del z i j r, lkA]
      by_cases h1 : j = i
      · rw [if_pos h1, if_pos h1]
      · rw [if_neg h1, if_neg h1, if_neg (fun e2 => h1 (e2.trans e.symm))]
    · rename_i e
      simp only [lkA, lkA_del z i j r]
      by_cases h1 : j = q.1
      · rw [if_pos h1, if_pos h1, if_neg (fun e2 => e (e2.symm.trans h1))]
      · rw [if_neg h1, if_neg h1]
theorem map_del (i : Name) : ∀ l : List (Name × Ob), (delA l i).map (fun q => (q.1, some q.2)) = delA (l.map fun q => (q.1, some q.2)) i
  | [] => rfl
  | q :: r => by
    simp only [delA, List.map_cons]
    split
    · exact map_del i r
    · rw [List.map_cons, map_del i r]

theorem mk_put (fr hp u) (t : Nat) (x : AV) : (mk fr hp u).put t x = mk (insA fr t x) hp u := by
  unfold St.put mk
  congr 1
  funext j
  rw [lkA_ins]; rfl
theorem mk_add (fr hp u) (t : Nat) (o : Ob) : (mk fr hp u).add t o = mk fr (insA hp [t] o) (t :: u) := by
  unfold St.add mk
  congr 1
  funext j
  rw [map_ins, lkA_ins]; rfl
theorem mk_set (fr hp u) (p : Name) (o : Ob) : (mk fr hp u).set p (some o) = mk fr (insA hp p o) u := by
  unfold St.set mk
  congr 1
  funext j
  rw [map_ins, lkA_ins]; rfl
theorem mk_del (fr hp u) (p : Name) : (mk fr hp u).set p none = mk fr (delA hp p) u := by
  unfold St.set mk
  congr 1
  funext j
  rw [map_del, lkA_del]; rfl

section
variable {P : Program} {cf : Cf} {Q : Exit → St → Prop} {s : St} {k : List It} {o : Oper} {a b : Code} {t : Nat} {all : Array Oper} {r : List Oper}
theorem cnd_true : cnd P cf (.d (.bool true)) a b k Q s = run P cf (.code a :: k) Q s := by simp [cnd]
theorem cnd_false : cnd P cf (.d (.bool false)) a b k Q s = run P cf (.code b :: k) Q s := by simp [cnd]
def skp (P : Program) (cf : Cf) (d : Option Nat) (all : Array Oper) (r : List Oper) (k : List It) (Q : Exit → St → Prop) (s : St) : Prop :=
  match d with
  | some t => if t < cf.n then run P cf (.ops all r :: k) Q (s.put t (.tup [])) else False
  | none => run P cf (.ops all r :: k) Q s
theorem skp_eq (d : Option Nat) : (putR cf.n d s (.tup [])).run (fun s' => run P cf (.ops all r :: k) Q s') False = skp P cf d all r k Q s := by
  cases d with
  | none => rfl
  | some t => simp only [putR, skp]; split <;> simp [R.run]
theorem gd_tt : gd P cf (some (t, .d (.bool true))) true all o r s k Q = stp P cf (opR P.ti cf.n o.op o.dst (s.put t (.d (.bool true)))) { o with guard := none } (s.put t (.d (.bool true))) (.ops all r :: k) Q := by simp [gd]
theorem gd_ff : gd P cf (some (t, .d (.bool false))) false all o r s k Q = stp P cf (opR P.ti cf.n o.op o.dst (s.put t (.d (.bool false)))) { o with guard := none } (s.put t (.d (.bool false))) (.ops all r :: k) Q := by simp [gd]
theorem gd_tf : gd P cf (some (t, .d (.bool true))) false all o r s k Q = skp P cf o.dst all r k Q (s.put t (.d (.bool true))) := by simp [gd, skp_eq]
theorem gd_ft : gd P cf (some (t, .d (.bool false))) true all o r s k Q = skp P cf o.dst all r k Q (s.put t (.d (.bool false))) := by simp [gd, skp_eq]
theorem gd_un {want : Bool} : gd P cf (some (t, .tup [])) want all o r s k Q = skp P cf o.dst all r k Q s := by simp [gd, skp_eq]
/-- A branch that hangs on what is not known. -/
theorem cnd_split {p : Prop} [Decidable p] (h1 : p → run P cf (.code a :: k) Q s) (h2 : ¬ p → run P cf (.code b :: k) Q s) : cnd P cf (.d (.bool (decide p))) a b k Q s :=
  ⟨fun h => h1 (of_decide_eq_true h), fun h => h2 (of_decide_eq_false h)⟩
theorem cnd_bsplit {c : Bool} (h1 : c = true → run P cf (.code a :: k) Q s) (h2 : c = false → run P cf (.code b :: k) Q s) : cnd P cf (.d (.bool c)) a b k Q s := ⟨h1, h2⟩
theorem gd_split {p : Prop} [Decidable p] {want : Bool}
    (h1 : p → gd P cf (some (t, .d (.bool true))) want all o r (s.put t (.d (.bool true))) k Q) (h2 : ¬ p → gd P cf (some (t, .d (.bool false))) want all o r (s.put t (.d (.bool false))) k Q) : gd P cf (some (t, .d (.bool (decide p)))) want all o r s k Q := by
  have pp : ∀ x y : AV, (s.put t x).put t y = s.put t y := fun x y => by
    unfold St.put; congr 1; funext i; simp only [updN]; split <;> rfl
  by_cases h : p
  · have := h1 h
    simp only [h, decide_true]
    cases want
    · rw [gd_tf] at this ⊢; rw [pp] at this; exact this
    · rw [gd_tt] at this ⊢; rw [pp] at this; exact this
  · have := h2 h
    simp only [h, decide_false]
    cases want
    · rw [gd_ff] at this ⊢; rw [pp] at this; exact this
    · rw [gd_ft] at this ⊢; rw [pp] at this; exact this
theorem gd_bsplit {c : Bool} {want : Bool}
    (h1 : c = true → gd P cf (some (t, .d (.bool true))) want all o r (s.put t (.d (.bool true))) k Q) (h2 : c = false → gd P cf (some (t, .d (.bool false))) want all o r (s.put t (.d (.bool false))) k Q) : gd P cf (some (t, .d (.bool c))) want all o r s k Q := by
  have := gd_split (p := c = true) (Q := Q) (s := s) (k := k) (o := o) (t := t) (all := all) (r := r) (P := P) (cf := cf) (want := want) h1 (fun h => h2 (by simpa using h))
  simpa using this
end
theorem run_region_a {P : Program} {cf : Cf} (Q : Exit → St → Prop) (s : St) (k : List It) (i : Nat) (ops : Array Oper) : run P cf (.code (.region i ops false) :: k) Q s = run P cf (.ops ops ops.toList :: k) Q s := by rw [run]

/-! ### Lists that are written out -/
def takeL {α : Type} : Nat → List α → List α
  | 0, _ => []
  | _ + 1, [] => []
  | n + 1, a :: l => a :: takeL n l
def dropL {α : Type} : Nat → List α → List α
  | 0, l => l
  | _ + 1, [] => []
  | n + 1, _ :: l => dropL n l
def setL {α : Type} : List α → Nat → α → List α
  | [], _, _ => []
  | _ :: l, 0, x => x :: l
  | a :: l, n + 1, x => a :: setL l n x
def appL {α : Type} : List α → List α → List α
  | [], m => m
  | a :: l, m => a :: appL l m
def lenL {α : Type} : List α → Nat
  | [] => 0
  | _ :: l => lenL l + 1
theorem takeL_eq {α : Type} : ∀ (n : Nat) (l : List α), takeL n l = l.take n
  | 0, l => by simp [takeL]
  | _ + 1, [] => rfl
  | n + 1, a :: l => by simp [takeL, takeL_eq n l]
theorem dropL_eq {α : Type} : ∀ (n : Nat) (l : List α), dropL n l = l.drop n
  | 0, l => by simp [dropL]
  | _ + 1, [] => rfl
  | n + 1, a :: l => by simp [dropL, dropL_eq n l]
theorem setL_eq {α : Type} : ∀ (l : List α) (n : Nat) (x : α), setL l n x = l.set n x
  | [], _, _ => rfl
  | _ :: l, 0, x => rfl
  | a :: l, n + 1, x => by simp [setL, setL_eq l n x]
theorem appL_eq {α : Type} : ∀ (l m : List α), appL l m = l ++ m
  | [], m => rfl
  | a :: l, m => by simp [appL, appL_eq l m]
theorem lenL_eq {α : Type} : ∀ (l : List α), lenL l = l.length
  | [] => rfl
  | a :: l => by simp [lenL, lenL_eq l]
theorem partD_ev (i : TI) (d : D) (c : Nat) : partD i d c = if i.k.isBad then none else match d with
    | .agg cs => if i.k.agg then (if c + i.sz ≤ lenL cs then some (.agg (takeL i.sz (dropL c cs))) else none) else cs[c]?
    | d => if i.k.agg then none else if c = 0 then some d else none := by
  unfold partD
  split
  · rfl
  · cases d <;> simp only [takeL_eq, dropL_eq, lenL_eq]
theorem partC_ev (i : TI) (cs : List AV) (c : Nat) : partC i cs c = if i.k.isBad then .no else if i.k.agg then (if c + i.sz ≤ lenL cs then .ok (mkAgg (takeL i.sz (dropL c cs))) else .no) else R.ofO cs[c]? := by
  unfold partC
  simp only [takeL_eq, dropL_eq, lenL_eq]
theorem splice_ev {α : Type} (l : List α) (c : Nat) (xs : List α) : splice l c xs = appL (takeL c l) (appL xs (dropL (c + lenL xs) l)) := by
  unfold splice
  simp only [takeL_eq, dropL_eq, lenL_eq, appL_eq]
theorem storeEl_ev (i : TI) (w : W) (xs : List D) (j c : Nat) (y : D) : storeEl i w xs j c y = if i.k.isBad then none
    else if i.isW w && okWb w y && c == 0 then some (xs.set j y)
    else if i.k.agg then none
    else match xs.getD j .nilp with
      | .agg cs => if y.scal ∧ c < lenL cs ∧ i.sz = 1 then some (xs.set j (.agg (setL cs c y))) else none
      | _ => none := by
  unfold storeEl
  simp only [setL_eq, lenL_eq]
  generalize xs.getD j .nilp = z
  cases z <;> rfl
theorem toNat_lit (n : Nat) : Int.toNat (@OfNat.ofNat Int n (@instOfNat n)) = n := rfl
theorem ofNat_lit (n : Nat) : Int.ofNat (@OfNat.ofNat Nat n (instOfNatNat n)) = (@OfNat.ofNat Int n (@instOfNat n)) := rfl
theorem toNat_ofNat (n : Nat) : Int.toNat (Int.ofNat n) = n := rfl
theorem beq_l {α : Type} [BEq α] (l m : List α) : List.beq l m = (l == m) := rfl
theorem beq_nn {α : Type} [BEq α] : List.beq ([] : List α) [] = true := rfl
theorem beq_cn {α : Type} [BEq α] (a : α) (l : List α) : List.beq (a :: l) [] = false := rfl
theorem beq_nc {α : Type} [BEq α] (a : α) (l : List α) : List.beq [] (a :: l) = false := rfl
theorem beq_cc {α : Type} [BEq α] (a b : α) (l m : List α) : List.beq (a :: l) (b :: m) = (a == b && List.beq l m) := rfl


/-! ### What simp need not look into -/
section
variable {P : Program} {cf : Cf} {Q : Exit → St → Prop} {s s' : St} {k : List It} {o : Oper} {a b : Code} {all : Array Oper} {r : List Oper}
def xk (P : Program) (cf : Cf) (i : Nat) (k : List It) (Q : Exit → St → Prop) (s : St) : Prop := goK P cf (exitK i k) i Q s
theorem run_exit_x (i : Nat) : run P cf (.code (.exit i) :: k) Q s = xk P cf i k Q s := run_exit Q s k i
theorem xk_nil (i : Nat) : xk P cf i [] Q s = Q (.exit i) s := rfl
theorem xk_code (i : Nat) (c : Code) : xk P cf i (.code c :: k) Q s = xk P cf i k Q s := rfl
theorem xk_ops (i : Nat) : xk P cf i (.ops all r :: k) Q s = xk P cf i k Q s := rfl
theorem xk_eq (i : Nat) : xk P cf i (.blk i :: k) Q s = run P cf k Q s := by simp [xk, exitK, goK]
theorem xk_ne (i j : Nat) (h : (j == i) = false) : xk P cf i (.blk j :: k) Q s = xk P cf i k Q s := by
  have : j ≠ i := by simpa using h
  simp [xk, exitK, this]
theorem skp_some (t : Nat) (h : t < cf.n) : skp P cf (some t) all r k Q s = run P cf (.ops all r :: k) Q (s.put t (.tup [])) := by simp [skp, h]
theorem skp_none : skp P cf none all r k Q s = run P cf (.ops all r :: k) Q s := rfl
end
attribute [go_sem] run_nil run_blk run_ops_nil run_ops run_ops_g run_skip run_region run_seq run_cond run_block run_exit_x xk_nil xk_code xk_ops xk_eq xk_ne run_ret run_loop stp_ok stp_need stp_no cnd_true cnd_false gd_tt gd_ff gd_tf gd_ft guardV_eq gV run_putR_some skp_some skp_none
attribute [go_sem] wrap_i64 wrap_u64 pq_ret pq_normal okV_ok okV_need retV_one retV_two retV_nil AV.inU inUL
attribute [go_sem] opR putR newR loadR storeR storeEl_ev okWb fieldAddrR fieldR builtinR makeFuncR makeSliceR appendR listOf partsD indexAddrR indexR sliceR loI convR extractR binR binD TK.isBool dR unR pickR lenR maxR minR partD_ev partC_ev splice_ev cellsA cellsD allD mkAgg buildR buildG allGood takeL dropL appL lenL setL ev cv TK.agg TK.isBad TI.isW TI.zOk TI.by1 TI.zero D.scal R.bind R.ofO R.run sliceE TI.w St.putO
attribute [go_sem] mk_put mk_add mk_set mk_del insA delA mk_fr mk_hp mk_used lkA_nil lkA_cons argsFr resR
attribute [go_sem] List.map_cons List.map_nil List.getElem?_cons_zero List.getElem?_cons_succ Option.map_some Option.map_none Option.isSome_some Option.getD_some reduceCtorEq List.cons.injEq and_true true_and and_self if_true if_false ite_true ite_false and_false false_and
attribute [go_sem] List.getD_cons_zero Int.cast_ofNat_Int Int.toNat_natCast List.drop_succ_cons List.drop_zero Nat.add_one_sub_one List.take_length List.length_map Option.getD_none Option.isSome_none List.flatMap_cons List.flatMap_nil
attribute [go_sem] List.not_mem_nil not_false_eq_true not_true_eq_false List.mem_cons or_false or_self false_or forall_const Bool.true_eq_false Bool.false_eq_true Bool.not_true Bool.not_false false_imp_iff true_imp_iff imp_self List.length_cons List.length_nil decide_true decide_false decide_eq_true_eq decide_eq_false_iff_not Nat.zero_add Nat.add_zero Bool.and_true Bool.true_and Bool.and_false Bool.false_and beq_self_eq_true List.all_cons List.all_nil List.toList_toArray ne_eq List.getElem?_toArray
end Go.Ab
/-! ### The generic layer, part 22: from a contract by values to the machine's call. -/
namespace Go.Ab
section
variable {P : Program}

theorem calls_of_HP {G : List (Nat × Obj)} {f : FuncId} {ds : List D} {Q : AV → Prop} (h : HP P G f ds Q) {W : World} (hG : ∀ q ∈ G, W.heap[q.1]? = some q.2) {vs : Array Value} (hs : vs.size = ds.length)
    (hr : ∀ (i : Nat) d, ds[i]? = some d → Rep W.heap (fun _ => False) (vs.getD i undef) d) :
    Calls P f vs W fun e W' => ∃ v r, e = .returned v ∧ Q r ∧ Ext W W' ∧ ∃ u hp β own, VR W'.heap own u hp β v r := by
  have hno : ∀ (fr : List (Nat × AV)) (u : List Nat) (β : Name → Option Blk) (b : Nat), ¬ (mk fr [] u).own (fun _ => False) β b := by
    rintro fr u β b (hb | ⟨p, k, hp, _⟩)
    · exact hb
    · exact hp rfl
  have hsim : Sim { n := ds.length, io := wio W, G := G, H0 := W.heap, O0 := fun _ => False, A := fun _ => False, U0 := [], β0 := fun _ => none, hA := fun _ hb => hb.elim, hG := fun q hq => ⟨hG q hq, fun hb => hb⟩ }
      (fun _ => none) (mk (argsFr 0 (ds.map .d)) [] []) vs W := by
    refine { tms := hs, io := rfl, size := Nat.le_refl _, frame := fun _ _ _ => rfl, slots := fun t => ?_, objs := fun p o ho => (by cases ho), blocks := fun p k hp => (by exact absurd rfl hp), inj := fun p q k l hp => (by exact absurd rfl hp), us := fun x hx => (by cases hx), stay := fun p hp => rfl }
    rw [mk_fr, argsFr_get, if_pos (Nat.zero_le _), Nat.sub_zero, List.getElem?_map]
    cases hd : ds[t]? with
    | none => exact .un _
    | some d => exact .d _ _ ((hr t d hd).mono (fun _ _ _ => rfl) (fun b _ hb => (hno _ _ _ b hb).elim))
  have hgo := fun h1 h2 h3 h4 => h.2 _ _ vs W h1 h2 h3 h4 hsim
  refine (callsIn_wide.1 (hgo (by simp) rfl rfl rfl)).mono ?_
  rintro e W' ⟨v, r, hp', u', β', rfl, ⟨hQ, _, rfl⟩, hs2⟩
  refine ⟨v, r, rfl, hQ, ⟨hs2.io, hs2.size, fun b hb => hs2.frame b hb (fun h => h)⟩, _, _, _, _, hs2.slots 0⟩

theorem Ext.below {W W' : World} (h : Ext W W') (ht : W'.tape = W.tape) : RowKit.Below W.heap.size W W' := by
  have hio := h.io
  simp only [wio, Prod.mk.injEq] at hio
  exact ⟨hio.1, ht, hio.2, h.size, h.old⟩
theorem Ext.frame {W W' : World} (h : Ext W W') (may : MemPlace → Prop) : W.keptBut W' may := by
  have hio := h.io
  simp only [wio, Prod.mk.injEq] at hio
  refine ⟨hio.1, hio.2, fun i hi => ?_⟩
  rw [h.old i hi]
  split <;> simp_all
end
end Go.Ab
/-! ### The generic layer, part 23: the engine behind a veil: what evaluates is a variable with rules. -/
namespace Go.Ab

/-! What is looked at last has a type that names all that must stay as it is: so simp leaves that alone. -/
abbrev ToK (_ : List It) : Type := St
abbrev ToX (_ : Nat) (_ : List It) : Type := St
abbrev ToS (_ : Oper) (_ : St) (_ : List It) : Type 1 := R St
abbrev ToG (_ : Bool) (_ : Array Oper) (_ : Oper) (_ : List Oper) (_ : St) (_ : List It) : Type := Option (Nat × AV)
abbrev ToC (_ _ : Code) (_ : List It) (_ : St) : Type := AV
abbrev ToP (_ : Option Nat) (_ : Array Oper) (_ : List Oper) (_ : List It) : Type := St
/-- The engine's words, and how each steps. -/
structure Eng (P : Program) (cf : Cf) (Q : Exit → St → Prop) where
  run : (k : List It) → ToK k → Prop
  stp : (o : Oper) → (s : St) → (k : List It) → ToS o s k → Prop
  gd : (w : Bool) → (all : Array Oper) → (o : Oper) → (r : List Oper) → (s : St) → (k : List It) → ToG w all o r s k → Prop
  cnd : (a b : Code) → (k : List It) → (s : St) → ToC a b k s → Prop
  xk : (i : Nat) → (k : List It) → ToX i k → Prop
  skp : (d : Option Nat) → (all : Array Oper) → (r : List Oper) → (k : List It) → ToP d all r k → Prop
  run_eq : ∀ (k : List It) (s : St), run k s = Ab.run P cf k Q s
  stp_eq : ∀ (x : R St) o s k, stp o s k x = Ab.stp P cf x o s k Q
  gd_eq : ∀ (v : Option (Nat × AV)) w all o r s k, gd w all o r s k v = Ab.gd P cf v w all o r s k Q
  cnd_eq : ∀ (v : AV) a b k s, cnd a b k s v = Ab.cnd P cf v a b k Q s
  xk_eq' : ∀ i k (s : St), xk i k s = Ab.xk P cf i k Q s
  skp_eq : ∀ d all r k (s : St), skp d all r k s = Ab.skp P cf d all r k Q s
theorem eng_ex (P : Program) (cf : Cf) (Q : Exit → St → Prop) : Nonempty (Eng P cf Q) :=
  ⟨⟨fun k s => run P cf k Q s, fun o s k x => stp P cf x o s k Q, fun w all o r s k v => gd P cf v w all o r s k Q, fun a b k s v => cnd P cf v a b k Q s, fun i k s => xk P cf i k Q s, fun d all r k s => skp P cf d all r k Q s,
    fun _ _ => rfl, fun _ _ _ _ => rfl, fun _ _ _ _ _ _ _ => rfl, fun _ _ _ _ _ => rfl, fun _ _ _ => rfl, fun _ _ _ _ _ => rfl⟩⟩
section
variable {P : Program} {cf : Cf} {Q : Exit → St → Prop} (E : Eng P cf Q) (s : St) (k : List It) (o : Oper) (a b : Code) (t : Nat) (all : Array Oper) (r : List Oper)
theorem e_nil : E.run [] s = Q .normal s := by rw [E.run_eq, run_nil]
theorem e_blk (i : Nat) : E.run (.blk i :: k) s = E.run k s := by rw [E.run_eq, E.run_eq, run_blk]
theorem e_ops_nil : E.run (.ops all [] :: k) s = E.run k s := by rw [E.run_eq, E.run_eq, run_ops_nil]
theorem e_ops (d : Option Nat) (op : Op) (ty : Nat) (p : String) (e : Array Edge) :
    E.run (.ops all ({ dst := d, op := op, type := ty, pos := p, after := e, guard := none } :: r) :: k) s =
      E.stp { dst := d, op := op, type := ty, pos := p, after := e, guard := none } s (.ops all r :: k) (opR P.ti cf.n op d s) := by rw [E.run_eq, E.stp_eq, run_ops]
theorem e_ops_g (d : Option Nat) (op : Op) (ty : Nat) (p : String) (e : Array Edge) (j : Nat) (want : Bool) :
    E.run (.ops all ({ dst := d, op := op, type := ty, pos := p, after := e, guard := some (j, want) } :: r) :: k) s =
      E.gd want all { dst := d, op := op, type := ty, pos := p, after := e, guard := some (j, want) } r s k (guardV all j s) := by rw [E.run_eq, E.gd_eq, run_ops_g]
theorem e_skip : E.run (.code .skip :: k) s = E.run k s := by rw [E.run_eq, E.run_eq, run_skip]
theorem e_region (i : Nat) (ops : List Oper) : E.run (.code (.region i ops.toArray false) :: k) s = E.run (.ops ops.toArray ops :: k) s := by rw [E.run_eq, E.run_eq, run_region]
theorem e_seq : E.run (.code (.seq a b) :: k) s = E.run (.code a :: .code b :: k) s := by rw [E.run_eq, E.run_eq, run_seq]
theorem e_cond (x : Operand) : E.run (.code (.cond x a b) :: k) s = E.cnd a b k s (ev s x) := by rw [E.run_eq, E.cnd_eq, run_cond]
theorem e_block (i : Nat) : E.run (.code (.block i a) :: k) s = E.run (.code a :: .blk i :: k) s := by rw [E.run_eq, E.run_eq, run_block]
theorem e_exit (i : Nat) : E.run (.code (.exit i) :: k) s = E.xk i k s := by rw [E.run_eq, E.xk_eq', run_exit_x]
theorem e_ret : E.run (.code .ret :: k) s = Q .ret s := by rw [E.run_eq, run_ret]
theorem e_stp_ok (s' : St) : E.stp o s k (.ok s') = E.run k s' := by rw [E.run_eq, E.stp_eq, stp_ok]
theorem e_stp_need (p : Prop) (x : R St) : E.stp o s k (.need p x) = (p ∧ E.stp o s k x) := by rw [E.stp_eq, E.stp_eq, stp_need]
theorem e_cnd_true : E.cnd a b k s (.d (.bool true)) = E.run (.code a :: k) s := by rw [E.cnd_eq, E.run_eq, cnd_true]
theorem e_cnd_false : E.cnd a b k s (.d (.bool false)) = E.run (.code b :: k) s := by rw [E.cnd_eq, E.run_eq, cnd_false]
theorem e_gd_tt : E.gd true all o r s k (some (t, .d (.bool true))) = E.stp { o with guard := none } (s.put t (.d (.bool true))) (.ops all r :: k) (opR P.ti cf.n o.op o.dst (s.put t (.d (.bool true)))) := by rw [E.gd_eq, E.stp_eq, gd_tt]
theorem e_gd_ff : E.gd false all o r s k (some (t, .d (.bool false))) = E.stp { o with guard := none } (s.put t (.d (.bool false))) (.ops all r :: k) (opR P.ti cf.n o.op o.dst (s.put t (.d (.bool false)))) := by rw [E.gd_eq, E.stp_eq, gd_ff]
theorem e_gd_tf : E.gd false all o r s k (some (t, .d (.bool true))) = E.skp o.dst all r k (s.put t (.d (.bool true))) := by rw [E.gd_eq, E.skp_eq, gd_tf]
theorem e_gd_ft : E.gd true all o r s k (some (t, .d (.bool false))) = E.skp o.dst all r k (s.put t (.d (.bool false))) := by rw [E.gd_eq, E.skp_eq, gd_ft]
theorem e_gd_un (want : Bool) : E.gd want all o r s k (some (t, .tup [])) = E.skp o.dst all r k s := by rw [E.gd_eq, E.skp_eq, gd_un]
theorem e_skp_some (t : Nat) (h : t < cf.n) : E.skp (some t) all r k s = E.run (.ops all r :: k) (s.put t (.tup [])) := by rw [E.skp_eq, E.run_eq, skp_some t h]
theorem e_skp_none : E.skp none all r k s = E.run (.ops all r :: k) s := by rw [E.skp_eq, E.run_eq, skp_none]
theorem e_xk_nil (i : Nat) : E.xk i [] s = Q (.exit i) s := by rw [E.xk_eq', xk_nil]
theorem e_xk_code (i : Nat) (c : Code) : E.xk i (.code c :: k) s = E.xk i k s := by rw [E.xk_eq', E.xk_eq', xk_code]
theorem e_xk_ops (i : Nat) : E.xk i (.ops all r :: k) s = E.xk i k s := by rw [E.xk_eq', E.xk_eq', xk_ops]
theorem e_xk_eq (i : Nat) : E.xk i (.blk i :: k) s = E.run k s := by rw [E.xk_eq', E.run_eq, xk_eq]
theorem e_xk_ne (i j : Nat) (h : (j == i) = false) : E.xk i (.blk j :: k) s = E.xk i k s := by rw [E.xk_eq', E.xk_eq', xk_ne i j h]
variable {s k o a b all r}
end
attribute [go_sem] e_nil e_blk e_ops_nil e_ops e_ops_g e_skip e_region e_seq e_cond e_block e_exit e_ret e_stp_ok e_stp_need e_cnd_true e_cnd_false e_gd_tt e_gd_ff e_gd_tf e_gd_ft e_gd_un e_skp_some e_skp_none e_xk_nil e_xk_code e_xk_ops e_xk_eq e_xk_ne
section
variable {P : Program} {cf : Cf} {Q : Exit → St → Prop} (E : Eng P cf Q) {s : St} {k : List It} {o : Oper} {a b : Code} {t : Nat} {all : Array Oper} {r : List Oper}
/-- Code that is left to a rule of its own. -/
def CodeE (_E : Eng P cf Q) (c : Code) (s : St) (k : List It) : Prop := ACk P cf c s k Q
theorem e_loop : E.run (.code (.loop a) :: k) s = CodeE E (.loop a) s k := by rw [E.run_eq, run_loop]; rfl
theorem e_draw (i : Nat) (ops : List Oper) : E.run (.code (.region i ops.toArray true) :: k) s = CodeE E (.region i ops.toArray true) s k := by rw [E.run_eq, run_draw]; rfl
theorem e_stp_no : E.stp o s k .no = AOk P cf o s k Q := by rw [E.stp_eq, stp_no]
/-- A branch that hangs on what is not known. -/
theorem e_if {c : Bool} (h1 : c = true → E.run (.code a :: k) s) (h2 : c = false → E.run (.code b :: k) s) : E.cnd a b k s (.d (.bool c)) := by
  rw [E.cnd_eq]
  exact cnd_bsplit (fun h => by rw [← E.run_eq]; exact h1 h) (fun h => by rw [← E.run_eq]; exact h2 h)
theorem e_ifd {p : Prop} [Decidable p] (h1 : p → E.run (.code a :: k) s) (h2 : ¬ p → E.run (.code b :: k) s) : E.cnd a b k s (.d (.bool (decide p))) := by
  rw [E.cnd_eq]
  exact cnd_split (fun h => by rw [← E.run_eq]; exact h1 h) (fun h => by rw [← E.run_eq]; exact h2 h)
theorem e_gif {c : Bool} {want : Bool}
    (h1 : c = true → E.gd want all o r (s.put t (.d (.bool true))) k (some (t, .d (.bool true)))) (h2 : c = false → E.gd want all o r (s.put t (.d (.bool false))) k (some (t, .d (.bool false)))) : E.gd want all o r s k (some (t, .d (.bool c))) := by
  rw [E.gd_eq]
  exact gd_bsplit (fun h => by rw [← E.gd_eq]; exact h1 h) (fun h => by rw [← E.gd_eq]; exact h2 h)
theorem e_gifd {p : Prop} [Decidable p] {want : Bool}
    (h1 : p → E.gd want all o r (s.put t (.d (.bool true))) k (some (t, .d (.bool true)))) (h2 : ¬ p → E.gd want all o r (s.put t (.d (.bool false))) k (some (t, .d (.bool false)))) : E.gd want all o r s k (some (t, .d (.bool (decide p)))) := by
  rw [E.gd_eq]
  exact gd_split (fun h => by rw [← E.gd_eq]; exact h1 h) (fun h => by rw [← E.gd_eq]; exact h2 h)
end
theorem int_beq (a b : Int) : (a == b) = decide (a = b) := rfl
theorem int_bne (a b : Int) : (a != b) = decide (¬ a = b) := by simp only [bne, int_beq, decide_not]
theorem beq_tf : (true == false) = false := rfl
theorem beq_ft : (false == true) = false := rfl
attribute [go_sem] beq_tf beq_ft e_loop e_draw int_beq int_bne eq_self not_true_eq_false
theorem veil {P : Program} {cf : Cf} {Q : Exit → St → Prop} {k : List It} {s : St} (h : ∀ E : Eng P cf Q, E.run k s) : run P cf k Q s := by
  obtain ⟨E⟩ := eng_ex P cf Q
  rw [← E.run_eq]; exact h E
theorem e_call {P : Program} {cf : Cf} {Q : Exit → St → Prop} (E : Eng P cf Q) {s : St} {k : List It} {dst : Option Nat} {fv : Operand} {args : Array Operand} {at' : Array TypeId} {ty : TypeId} {pos : String} {af : Array Edge}
    {f : FuncId} {caps : List AV} {ds : List D} {Q0 : AV → Prop} (hc : HP P cf.G f ds Q0)
    (hev : ev s fv = .clo f caps) (hargs : args.toList.map (ev s) ++ caps = ds.map .d) (hdst : ∀ t ∈ dst, t < cf.n) (hk : ∀ r, Q0 r → E.run k (s.putO dst r)) :
    E.stp { dst := dst, op := .call { callee := .value fv, args := args, argTypes := at' }, type := ty, pos := pos, after := af, guard := none } s k .no := by
  rw [E.stp_eq, stp_no]
  exact callP_ok hc hev hargs hdst fun r hr => by rw [← E.run_eq]; exact hk r hr
end Go.Ab
