/-
  The generic layer, part 21: states in written form, for evaluation.
-/
import Derived.Test.YtmplpdjddjiioaaDoorM1
import Derived.Attr
namespace Go.Ab

def insA {α β : Type} [DecidableEq α] : List (α × β) → α → β → List (α × β)
  | [], i, x => [(i, x)]
  | q :: r, i, x => if i = q.1 then (i, x) :: r else q :: insA r i x
def delA {α β : Type} [DecidableEq α] : List (α × β) → α → List (α × β)
  | [], _ => []
  | q :: r, i => if i = q.1 then delA r i else q :: delA r i
theorem lkA_ins {α β : Type} [DecidableEq α] (z : β) (i : α) (x : β) (j : α) : ∀ l : List (α × β), lkA z (insA l i x) j = if j = i then x else lkA z l j
  | [] => by simp [insA, lkA]
  | q :: r => by
    simp only [insA]
    split
    · rename_i e; subst e; simp only [lkA]; split <;> rfl
    · rename_i e
      simp only [lkA, lkA_ins z i x j r]
      by_cases h1 : j = q.1
      · rw [if_pos h1, if_pos h1, if_neg (fun e2 => e (e2.symm.trans h1))]
      · rw [if_neg h1, if_neg h1]
theorem map_ins (i : Name) (x : Ob) : ∀ l : List (Name × Ob), (insA l i x).map (fun q => (q.1, some q.2)) = insA (l.map fun q => (q.1, some q.2)) i (some x)
  | [] => rfl
  | q :: r => by
    simp only [insA, List.map_cons]
    split
    · rfl
    · rw [List.map_cons, map_ins i x r]
theorem lkA_del {α β : Type} [DecidableEq α] (z : β) (i : α) (j : α) : ∀ l : List (α × β), lkA z (delA l i) j = if j = i then z else lkA z l j
  | [] => by simp [delA, lkA]
  | q :: r => by
    simp only [delA]
    split
    · rename_i e
      rw [lkA_del z i j r, lkA]
      by_cases h1 : j = i
      · rw [if_pos h1, if_pos h1]
      · rw [if_neg h1, if_neg h1, if_neg (fun e2 => h1 (e2.trans e.symm))]
    · rename_i e
      simp only [lkA, lkA_del z i j r]
      by_cases h1 : j = q.1
      · rw [if_pos h1, if_pos h1, if_neg (fun e2 => e (e2.symm.trans h1))]
      · rw [if_neg h1, if_neg h1]
theorem map_del (i : Name) : ∀ l : List (Name × Ob), (delA l i).map (fun q => (q.1, some q.2)) = delA (l.map fun q => (q.1, some q.2)) i
  | [] => rfl
  | q :: r => by
    simp only [delA, List.map_cons]
    split
    · exact map_del i r
    · rw [List.map_cons, map_del i r]

theorem mk_put (fr hp u) (t : Nat) (x : AV) : (mk fr hp u).put t x = mk (insA fr t x) hp u := by
  unfold St.put mk
  congr 1
  funext j
  rw [lkA_ins]; rfl
theorem mk_add (fr hp u) (t : Nat) (o : Ob) : (mk fr hp u).add t o = mk fr (insA hp [t] o) (t :: u) := by
  unfold St.add mk
  congr 1
  funext j
  rw [map_ins, lkA_ins]; rfl
theorem mk_set (fr hp u) (p : Name) (o : Ob) : (mk fr hp u).set p (some o) = mk fr (insA hp p o) u := by
  unfold St.set mk
  congr 1
  funext j
  rw [map_ins, lkA_ins]; rfl
theorem mk_del (fr hp u) (p : Name) : (mk fr hp u).set p none = mk fr (delA hp p) u := by
  unfold St.set mk
  congr 1
  funext j
  rw [map_del, lkA_del]; rfl

section
variable {P : Program} {cf : Cf} {Q : Exit → St → Prop} {s : St} {k : List It} {o : Oper} {a b : Code} {t : Nat} {all : Array Oper} {r : List Oper}
theorem cnd_true : cnd P cf (.d (.bool true)) a b k Q s = run P cf (.code a :: k) Q s := by simp [cnd]
theorem cnd_false : cnd P cf (.d (.bool false)) a b k Q s = run P cf (.code b :: k) Q s := by simp [cnd]
def skp (P : Program) (cf : Cf) (d : Option Nat) (all : Array Oper) (r : List Oper) (k : List It) (Q : Exit → St → Prop) (s : St) : Prop :=
  match d with
  | some t => if t < cf.n then run P cf (.ops all r :: k) Q (s.put t (.tup [])) else False
  | none => run P cf (.ops all r :: k) Q s
theorem skp_eq (d : Option Nat) : (putR cf.n d s (.tup [])).run (fun s' => run P cf (.ops all r :: k) Q s') False = skp P cf d all r k Q s := by
  cases d with
  | none => rfl
  | some t => simp only [putR, skp]; split <;> simp [R.run]
theorem gd_tt : gd P cf (some (t, .d (.bool true))) true all o r s k Q = stp P cf (opR P.ti cf.n o.op o.dst (s.put t (.d (.bool true)))) { o with guard := none } (s.put t (.d (.bool true))) (.ops all r :: k) Q := by simp [gd]
theorem gd_ff : gd P cf (some (t, .d (.bool false))) false all o r s k Q = stp P cf (opR P.ti cf.n o.op o.dst (s.put t (.d (.bool false)))) { o with guard := none } (s.put t (.d (.bool false))) (.ops all r :: k) Q := by simp [gd]
theorem gd_tf : gd P cf (some (t, .d (.bool true))) false all o r s k Q = skp P cf o.dst all r k Q (s.put t (.d (.bool true))) := by simp [gd, skp_eq]
theorem gd_ft : gd P cf (some (t, .d (.bool false))) true all o r s k Q = skp P cf o.dst all r k Q (s.put t (.d (.bool false))) := by simp [gd, skp_eq]
theorem gd_un {want : Bool} : gd P cf (some (t, .tup [])) want all o r s k Q = skp P cf o.dst all r k Q s := by simp [gd, skp_eq]
/-- A branch that hangs on what is not known. -/
theorem cnd_split {p : Prop} [Decidable p] (h1 : p → run P cf (.code a :: k) Q s) (h2 : ¬ p → run P cf (.code b :: k) Q s) : cnd P cf (.d (.bool (decide p))) a b k Q s :=
  ⟨fun h => h1 (of_decide_eq_true h), fun h => h2 (of_decide_eq_false h)⟩
theorem cnd_bsplit {c : Bool} (h1 : c = true → run P cf (.code a :: k) Q s) (h2 : c = false → run P cf (.code b :: k) Q s) : cnd P cf (.d (.bool c)) a b k Q s := ⟨h1, h2⟩
theorem gd_split {p : Prop} [Decidable p] {want : Bool}
    (h1 : p → gd P cf (some (t, .d (.bool true))) want all o r (s.put t (.d (.bool true))) k Q) (h2 : ¬ p → gd P cf (some (t, .d (.bool false))) want all o r (s.put t (.d (.bool false))) k Q) : gd P cf (some (t, .d (.bool (decide p)))) want all o r s k Q := by
  have pp : ∀ x y : AV, (s.put t x).put t y = s.put t y := fun x y => by
    unfold St.put; congr 1; funext i; simp only [updN]; split <;> rfl
  by_cases h : p
  · have := h1 h
    simp only [h, decide_true]
    cases want
    · rw [gd_tf] at this ⊢; rw [pp] at this; exact this
    · rw [gd_tt] at this ⊢; rw [pp] at this; exact this
  · have := h2 h
    simp only [h, decide_false]
    cases want
    · rw [gd_ff] at this ⊢; rw [pp] at this; exact this
    · rw [gd_ft] at this ⊢; rw [pp] at this; exact this
theorem gd_bsplit {c : Bool} {want : Bool}
    (h1 : c = true → gd P cf (some (t, .d (.bool true))) want all o r (s.put t (.d (.bool true))) k Q) (h2 : c = false → gd P cf (some (t, .d (.bool false))) want all o r (s.put t (.d (.bool false))) k Q) : gd P cf (some (t, .d (.bool c))) want all o r s k Q := by
  have := gd_split (p := c = true) (Q := Q) (s := s) (k := k) (o := o) (t := t) (all := all) (r := r) (P := P) (cf := cf) (want := want) h1 (fun h => h2 (by simpa using h))
  simpa using this
end
theorem run_region_a {P : Program} {cf : Cf} (Q : Exit → St → Prop) (s : St) (k : List It) (i : Nat) (ops : Array Oper) : run P cf (.code (.region i ops false) :: k) Q s = run P cf (.ops ops ops.toList :: k) Q s := by rw [run]

/-! ### Lists that are written out -/
def takeL {α : Type} : Nat → List α → List α
  | 0, _ => []
  | _ + 1, [] => []
  | n + 1, a :: l => a :: takeL n l
def dropL {α : Type} : Nat → List α → List α
  | 0, l => l
  | _ + 1, [] => []
  | n + 1, _ :: l => dropL n l
def setL {α : Type} : List α → Nat → α → List α
  | [], _, _ => []
  | _ :: l, 0, x => x :: l
  | a :: l, n + 1, x => a :: setL l n x
def appL {α : Type} : List α → List α → List α
  | [], m => m
  | a :: l, m => a :: appL l m
def lenL {α : Type} : List α → Nat
  | [] => 0
  | _ :: l => lenL l + 1
theorem takeL_eq {α : Type} : ∀ (n : Nat) (l : List α), takeL n l = l.take n
  | 0, l => by simp [takeL]
  | _ + 1, [] => rfl
  | n + 1, a :: l => by simp [takeL, takeL_eq n l]
theorem dropL_eq {α : Type} : ∀ (n : Nat) (l : List α), dropL n l = l.drop n
  | 0, l => by simp [dropL]
  | _ + 1, [] => rfl
  | n + 1, a :: l => by simp [dropL, dropL_eq n l]
theorem setL_eq {α : Type} : ∀ (l : List α) (n : Nat) (x : α), setL l n x = l.set n x
  | [], _, _ => rfl
  | _ :: l, 0, x => rfl
  | a :: l, n + 1, x => by simp [setL, setL_eq l n x]
theorem appL_eq {α : Type} : ∀ (l m : List α), appL l m = l ++ m
  | [], m => rfl
  | a :: l, m => by simp [appL, appL_eq l m]
theorem lenL_eq {α : Type} : ∀ (l : List α), lenL l = l.length
  | [] => rfl
  | a :: l => by simp [lenL, lenL_eq l]
theorem partD_ev (i : TI) (d : D) (c : Nat) : partD i d c = if i.k.isBad then none else match d with
    | .agg cs => if i.k.agg then (if c + i.sz ≤ lenL cs then some (.agg (takeL i.sz (dropL c cs))) else none) else cs[c]?
    | d => if i.k.agg then none else if c = 0 then some d else none := by
  unfold partD
  split
  · rfl
  · cases d <;> simp only [takeL_eq, dropL_eq, lenL_eq]
theorem partC_ev (i : TI) (cs : List AV) (c : Nat) : partC i cs c = if i.k.isBad then .no else if i.k.agg then (if c + i.sz ≤ lenL cs then .ok (mkAgg (takeL i.sz (dropL c cs))) else .no) else R.ofO cs[c]? := by
  unfold partC
  simp only [takeL_eq, dropL_eq, lenL_eq]
theorem splice_ev {α : Type} (l : List α) (c : Nat) (xs : List α) : splice l c xs = appL (takeL c l) (appL xs (dropL (c + lenL xs) l)) := by
  unfold splice
  simp only [takeL_eq, dropL_eq, lenL_eq, appL_eq]
theorem storeEl_ev (i : TI) (w : W) (xs : List D) (j c : Nat) (y : D) : storeEl i w xs j c y = if i.k.isBad then none
    else if i.isW w && okWb w y && c == 0 then some (xs.set j y)
    else if i.k.agg then none
    else match xs.getD j .nilp with
      | .agg cs => if y.scal ∧ c < lenL cs ∧ i.sz = 1 then some (xs.set j (.agg (setL cs c y))) else none
      | _ => none := by
  unfold storeEl
  simp only [setL_eq, lenL_eq]
  generalize xs.getD j .nilp = z
  cases z <;> rfl
theorem toNat_lit (n : Nat) : Int.toNat (@OfNat.ofNat Int n (@instOfNat n)) = n := rfl
theorem ofNat_lit (n : Nat) : Int.ofNat (@OfNat.ofNat Nat n (instOfNatNat n)) = (@OfNat.ofNat Int n (@instOfNat n)) := rfl
theorem toNat_ofNat (n : Nat) : Int.toNat (Int.ofNat n) = n := rfl
theorem beq_l {α : Type} [BEq α] (l m : List α) : List.beq l m = (l == m) := rfl
theorem beq_nn {α : Type} [BEq α] : List.beq ([] : List α) [] = true := rfl
theorem beq_cn {α : Type} [BEq α] (a : α) (l : List α) : List.beq (a :: l) [] = false := rfl
theorem beq_nc {α : Type} [BEq α] (a : α) (l : List α) : List.beq [] (a :: l) = false := rfl
theorem beq_cc {α : Type} [BEq α] (a b : α) (l m : List α) : List.beq (a :: l) (b :: m) = (a == b && List.beq l m) := rfl


/-! ### What simp need not look into -/
section
variable {P : Program} {cf : Cf} {Q : Exit → St → Prop} {s s' : St} {k : List It} {o : Oper} {a b : Code} {all : Array Oper} {r : List Oper}
def xk (P : Program) (cf : Cf) (i : Nat) (k : List It) (Q : Exit → St → Prop) (s : St) : Prop := goK P cf (exitK i k) i Q s
theorem run_exit_x (i : Nat) : run P cf (.code (.exit i) :: k) Q s = xk P cf i k Q s := run_exit Q s k i
theorem xk_nil (i : Nat) : xk P cf i [] Q s = Q (.exit i) s := rfl
theorem xk_code (i : Nat) (c : Code) : xk P cf i (.code c :: k) Q s = xk P cf i k Q s := rfl
theorem xk_ops (i : Nat) : xk P cf i (.ops all r :: k) Q s = xk P cf i k Q s := rfl
theorem xk_eq (i : Nat) : xk P cf i (.blk i :: k) Q s = run P cf k Q s := by simp [xk, exitK, goK]
theorem xk_ne (i j : Nat) (h : (j == i) = false) : xk P cf i (.blk j :: k) Q s = xk P cf i k Q s := by
  have : j ≠ i := by simpa using h
  simp [xk, exitK, this]
@[congr] theorem run_cg (h : s = s') : run P cf k Q s = run P cf k Q s' := by rw [h]
@[congr] theorem xk_cg {i : Nat} (h : s = s') : xk P cf i k Q s = xk P cf i k Q s' := by rw [h]
@[congr] theorem stp_cg {x y : R St} (h : x = y) : stp P cf x o s k Q = stp P cf y o s k Q := by rw [h]
@[congr] theorem gd_cg {x y : Option (Nat × AV)} {want : Bool} (h : x = y) : gd P cf x want all o r s k Q = gd P cf y want all o r s k Q := by rw [h]
@[congr] theorem cnd_cg {x y : AV} (h : x = y) : cnd P cf x a b k Q s = cnd P cf y a b k Q s := by rw [h]
@[congr] theorem skp_cg {d : Option Nat} (h : s = s') : skp P cf d all r k Q s = skp P cf d all r k Q s' := by rw [h]
@[congr] theorem AOk_cg : AOk P cf o s k Q = AOk P cf o s k Q := rfl
@[congr] theorem ACk_cg : ACk P cf a s k Q = ACk P cf a s k Q := rfl
theorem skp_some (t : Nat) (h : t < cf.n) : skp P cf (some t) all r k Q s = run P cf (.ops all r :: k) Q (s.put t (.tup [])) := by simp [skp, h]
theorem skp_none : skp P cf none all r k Q s = run P cf (.ops all r :: k) Q s := rfl
end
attribute [go_sem] run_nil run_blk run_ops_nil run_ops run_ops_g run_skip run_region run_seq run_cond run_block run_exit_x xk_nil xk_code xk_ops xk_eq xk_ne run_ret run_loop stp_ok stp_need stp_no cnd_true cnd_false gd_tt gd_ff gd_tf gd_ft guardV_eq gV run_putR_some skp_some skp_none
attribute [go_sem] wrap_i64 wrap_u64 pq_ret pq_normal okV_ok okV_need retV_one retV_two retV_nil AV.inU inUL
attribute [go_sem] opR putR newR loadR storeR storeEl_ev okWb fieldAddrR fieldR builtinR makeFuncR makeSliceR appendR listOf partsD indexAddrR indexR sliceR loI convR extractR binR binD TK.isBool dR unR pickR lenR maxR minR partD_ev partC_ev splice_ev cellsA cellsD allD mkAgg buildR buildG allGood takeL dropL appL lenL setL ev cv TK.agg TK.isBad TI.isW TI.zOk TI.by1 TI.zero D.scal R.bind R.ofO R.run sliceE TI.w St.putO
attribute [go_sem] mk_put mk_add mk_set mk_del insA delA mk_fr mk_hp mk_used lkA_nil lkA_cons argsFr resR
attribute [go_sem] List.map_cons List.map_nil List.getElem?_cons_zero List.getElem?_cons_succ Option.map_some Option.map_none Option.isSome_some Option.getD_some reduceCtorEq List.cons.injEq and_true true_and and_self if_true if_false ite_true ite_false and_false false_and
attribute [go_sem] List.not_mem_nil not_false_eq_true not_true_eq_false List.mem_cons or_false or_self false_or forall_const Bool.true_eq_false Bool.false_eq_true Bool.not_true Bool.not_false false_imp_iff true_imp_iff imp_self List.length_cons List.length_nil decide_true decide_false decide_eq_true_eq decide_eq_false_iff_not Nat.zero_add Nat.add_zero Bool.and_true Bool.true_and Bool.and_false Bool.false_and beq_self_eq_true List.all_cons List.all_nil List.toList_toArray ne_eq List.getElem?_toArray
end Go.Ab
