/-
  The generic layer, part 35: regions that draw their order and store: operations with their footprints. (with the parts that follow it) (with the parts that follow it)
-/
import Derived.Test.YtejpnabbmgpmaaaGreatSEC
import Derived.Test.YtejpnabbmgpmaaaGreatSEA
import Derived.Test.YtejpnabbmgpmaaaGreatProg
import Derived.KernelRfl
import Derived.Laws.StructEq
set_option linter.all false
namespace Go.Ab
structure Ef where
 wr:List (Name × Option Ob):=[]
 nu:List Nat:=[]
def ef0:Ef:=⟨[],[]⟩
def wl:List (Name × Option Ob)→Name→Option (Option Ob)
 | [],_=>none
 | q::r,p=>match wl r p with
   | some v=>some v
   | none=>if p=q.1 then some q.2 else none
def St.eff (s:St) (e:Ef):St:={ fr:=s.fr,hp:=fun p=>(wl e.wr p).getD (s.hp p),used:=e.nu++s.used }
def St.go (s:St) (d:Option Nat) (x:AV) (e:Ef):St:=(s.eff e).putd d x
theorem ku {s s':St} (h1:∀ p,s.hp p=s'.hp p) (h2:s.used=s'.used) (h3:∀ t,s.fr t=s'.fr t):s=s':=Ck (funext h1) h2 h3
theorem Ai (s:St):s.eff ⟨[],[]⟩=s:=ku (fun _=>rfl) rfl fun _=>rfl
theorem q0 (s:St):s.eff ef0=s:=Ai s
theorem qZ (s:St) (p:Name) (v:Option Ob):s.eff ⟨[(p,v)],[]⟩=s.set p v:=ku (fun q=>by
 show (wl [(p,v)] q).getD (s.hp q)=aD s.hp p v q
 simp only [wl,aD]
 split<;>rfl) rfl fun _=>rfl
theorem nk (s:St) (t:Nat) (o:Ob):s.eff ⟨[([t],some o)],[t]⟩=s.add t o:=ku (fun q=>by
 show (wl [([t],some o)] q).getD (s.hp q)=aD s.hp [t] (some o) q
 simp only [wl,aD]
 split<;>rfl) rfl fun _=>rfl
theorem xT (s:St) (p:Name) (t:Nat) (o:Ob):s.eff ⟨[(p,none),([t],some o)],[t]⟩=(s.set p none).add t o:=ku (fun q=>by
 show (wl [(p,none),([t],some o)] q).getD (s.hp q)=aD (aD s.hp p none) [t] (some o) q
 simp only [wl,aD]
 by_cases h:q=[t]
 ·simp [h]
 ·simp only [if_neg h]
  split<;>rfl) rfl fun _=>rfl
def rdA:AV→List Name
 | .vw p _ _=>[p]
 | .bx p _=>[p]
 | .el p _ _=>[p]
 | .mp p=>[p]
 | _=>[]
def rdO (s:St):Op→List Name
 | .load _ x=>rdA (ev s x)
 | .fieldAddr _ x _=>rdA (ev s x)
 | .indexAddr _ x _=>rdA (ev s x)
 | .slice _ x _ _ _=>rdA (ev s x)
 | .store _ x _=>rdA (ev s x)
 | .call c=>c.args.toList.flatMap fun x=>rdA (ev s x)
 | _=>[]
def eZ (i:TI) (s:St) (x v:AV):R (Name × Ob) :=
 match x with
 | .bx p c =>
   match s.hp p with
   | some (.boxT ty cs)=>match cN v with
     | some vs=>if i.k.bh=false∧vs.length=i.sz∧c+i.sz≤cs.length then .ok (p,.boxT ty (splice cs c vs)) else .no
     | none=>.no
   | _=>.no
 | .el p j c =>
   match s.hp p,v with
   | some (.arrT none w xs),.d y=>match jI i w xs j c y with
     | some ys=>.ok (p,.arr w ys)
     | none=>.no
   | _,_=>.no
 | _=>.no
theorem yZ (i:TI) (s:St) (x v:AV):ju i s x v=(eZ i s x v).bind fun q=>.ok (s.set q.1 (some q.2)):=by
 cases x with
 | bx p c =>
   simp only [ju,eZ]
   cases s.hp p with
   | none=>rfl
   | some o =>
     cases o with
     | boxT ty cs =>
       simp only
       cases cN v with
       | none=>rfl
       | some vs=>simp only;split<;>rfl
     | _=>rfl
 | el p j c =>
   simp only [ju,eZ]
   cases s.hp p with
   | none=>rfl
   | some o =>
     cases o with
     | arrT ty w xs =>
       rcases ty with _ | ty
       rotate_left
       ·cases v<;>rfl
       cases v with
       | d y =>
         simp only
         cases jI i w xs j c y with
         | none=>rfl
         | some ys=>rfl
       | _=>rfl
     | _=>rfl
 | _=>rfl
def jW (d:Option Nat) (s:St) (wr:List (Name × Option Ob)) (ob:Ob) (x:Name→AV):R (AV × Ef) :=
 match d with
 | some t=>if t ∉ s.used then .ok (x [t],⟨wr++[([t],some ob)],[t]⟩) else .no
 | none=>.no
def eH (e:TI) (d:Option Nat) (s:St) (x y:AV):R (AV × Ef) :=
 match cB e.w s.hp y,x with
 | some ys,.d .nils=>.need (ys.length*e.by1≤140737488355328) (jW d s [] (.arr e.w ys) (.vw · 0 ys.length))
 | some ys,.vw p o l =>
   match s.hp p with
   | some (.arrT none w xs)=>if w=e.w then .need ((l+ys.length)*e.by1≤140737488355328) (jW d s [(p,none)] (.arr w ((xs.drop o).take l++ys)) (.vw · 0 (l+ys.length))) else .no
   | _=>.no
 | _,_=>.no
def opE (tf:Nat→TI) (o:Op) (d:Option Nat) (s:St):R (AV × Ef) :=
 match o with
 | .store t x v=>(eZ (tf t) s (ev s x) (ev s v)).bind fun q=>.ok (.un,⟨[(q.1,some q.2)],[]⟩)
 | .alloc e=>match (tf e).z with
   | some cs=>jW d s [] (.boxT (ym tf e) (cs.map .d)) (.bx · 0)
   | none=>.no
 | .buildSlice t l parts =>
   match ot (tf t).k,iw 0 (parts.toList.map fun q=>(q.1,ev s q.2)) with
   | some e,some xs=>if xs.length=l∧(tf e).z.isSome∧(tf e).isW (tf e).w∧xs.all (nM (tf e).w)∧l*(tf e).sz≤16777216 then jW d s [] (.arr (tf e).w xs) (.vw · 0 l) else .no
   | _,_=>.no
 | .call c=>match c.callee,c.args.toList,c.argTypes.toList with
   | .builtin .append,[x,y],[t,t']=>if t≠t' then .no else match (tf t).k with
     | .slice e=>if (tf e).zOk∧(tf e).isW (tf e).w then eH (tf e) d s (ev s x) (ev s y) else .no
     | _=>.no
   | _,_,_=>(opV tf (.call c) s).bind fun x=>.ok (x,ef0)
 | o=>(opV tf o s).bind fun x=>.ok (x,ef0)
theorem Cd (i:TI) (hp hp':Name→Option Ob) (x:AV) (h:∀ p∈rdA x,hp' p=hp p):j1 i hp' x=j1 i hp x:=by
 cases x with
 | bx p c=>simp only [j1,h p (by simp [rdA])]
 | el p j c=>simp only [j1,h p (by simp [rdA])]
 | d y=>cases y<;>rfl
 | _=>rfl
theorem oX (i:TI) (tf:Nat→TI) (hp hp':Name→Option Ob) (x:AV) (f:Nat) (h:∀ p∈rdA x,hp' p=hp p):cT i tf hp' x f=cT i tf hp x f:=by
 unfold cT
 cases i.k with
 | struct fs =>
   simp only
   cases fs[f]? with
   | none=>rfl
   | some q =>
     simp only
     split
     ·rfl
     ·cases x with
      | bx p c=>simp only [h p (by simp [rdA])]
      | el p j c=>simp only [h p (by simp [rdA])]
      | d y =>
        cases y with
        | ptr z=>cases z<;>rfl
        | _=>rfl
      | _=>rfl
 | _=>rfl
theorem pB (i:TI) (tf:Nat→TI) (hp hp':Name→Option Ob) (x j:AV) (h:∀ p∈rdA x,hp' p=hp p):da i tf hp' x j=da i tf hp x j:=by
 unfold da
 cases i.k with
 | slice e =>
   cases x with
   | vw p o l =>
     cases j with
     | d y =>
       cases y with
       | int k n=>simp only [h p (by simp [rdA])]
       | _=>rfl
     | _=>rfl
   | d y =>
     cases y<;>first
      | rfl
      | (cases j<;>first
       | rfl
       | (rename_i z;cases z<;>rfl))
   | _=>rfl
 | arr l e =>
   cases x with
   | el p i c =>
     cases j with
     | d y =>
       cases y with
       | int k n=>simp only [h p (by simp [rdA])]
       | _=>rfl
     | _=>rfl
   | _=>rfl
 | _=>rfl
theorem yK (i:TI) (tf:Nat→TI) (hp hp':Name→Option Ob) (x:AV) (lo hi:Option AV) (h:∀ p∈rdA x,hp' p=hp p):jg i tf hp' x lo hi=jg i tf hp x lo hi:=by
 unfold jg
 cases i.k with
 | slice e =>
   cases x with
   | vw p o l=>simp only [h p (by simp [rdA])]
   | d y=>cases y<;>rfl
   | _=>rfl
 | str =>
   cases x with
   | d y=>cases y<;>rfl
   | _=>rfl
 | arr l e =>
   cases x with
   | el p i c=>simp only [h p (by simp [rdA])]
   | _=>rfl
 | _=>rfl
theorem D0 (i:TI) (hp hp':Name→Option Ob) (x:AV) (h:∀ p∈rdA x,hp' p=hp p):sR i hp' x=sR i hp x:=by
 unfold sR
 cases i.k with
 | slice e =>
   cases x with
   | vw p o l=>simp only [h p (by simp [rdA])]
   | d y=>cases y<;>rfl
   | _=>rfl
 | map a b =>
   cases x with
   | mp p=>simp only [h p (by simp [rdA])]
   | _=>rfl
 | str =>
   cases x with
   | d y=>cases y<;>rfl
   | _=>rfl
 | _=>rfl
theorem y7 (i:TI) (s s':St) (x v:AV) (h:∀ p∈rdA x,s'.hp p=s.hp p):eZ i s' x v=eZ i s x v:=by
 cases x with
 | vw p o l=>simp only [eZ]
 | bx p c=>simp only [eZ,h p (by simp [rdA])]
 | el p j c=>simp only [eZ,h p (by simp [rdA])]
 | mp p=>simp only [eZ]
 | _=>rfl
theorem xH (tf:Nat→TI) (o:Op) (s s':St) (hh:∀ p∈rdO s o,s'.hp p=s.hp p) (h:∀ x∈o.operands,ev s' x=ev s x):opV tf o s'=opV tf o s:=by
 have e:opV tf o { s' with hp:=s.hp }=opV tf o s:=GI tf o s { s' with hp:=s.hp } rfl fun x hx=>by
  have:=h x hx
  cases x<;>exact this
 have hev:∀ x,ev { s' with hp:=s.hp } x=ev s' x:=fun x=>by cases x<;>rfl
 have hev':ev { s' with hp:=s.hp }=ev s':=funext hev
 rw [← e]
 cases o with
 | load t x =>
   simp only [opV,hev]
   exact Cd _ _ _ _ (by rw [h x (by simp [Op.operands])];exact hh)
 | fieldAddr t x f =>
   simp only [opV,hev]
   exact oX _ _ _ _ _ _ (by rw [h x (by simp [Op.operands])];exact hh)
 | indexAddr t x j =>
   simp only [opV,hev]
   exact pB _ _ _ _ _ _ (by rw [h x (by simp [Op.operands])];exact hh)
 | slice t x lo hi mx =>
   cases mx with
   | some _=>rfl
   | none =>
     simp only [opV,hev']
     exact yK _ _ _ _ _ _ _ (by rw [h x (by simp [Op.operands])];exact hh)
 | call c =>
   obtain ⟨callee,args,ats⟩:=c
   cases callee with
   | value _=>rfl
   | invoke _ _=>rfl
   | builtin b =>
     obtain ⟨args⟩:=args
     obtain ⟨ats⟩:=ats
     simp only [opV,hev]
     split
     ·rename_i x t
      exact D0 _ _ _ _ (by rw [h x (by simp [Op.operands,Call.operands])];exact fun p hp=>hh p (by simp [rdO,hp]))
     ·rfl
     ·rfl
     ·rfl
 | _=>simp only [opV,hev,hev']
def ylE:R (AV × Ef)→AV × Ef→Prop
 | .ok y,x=>y=x
 | .need p r,x=>p∧ylE r x
 | .no,_=>False
theorem nw {d:Option Nat} {s s':St} {wr:List (Name × Option Ob)} {ob:Ob} {x:Name→AV} {r:AV × Ef} (h:ylE (jW d s wr ob x) r) (hu:∀ y∈r.2.nu,y ∉ s'.used):ylE (jW d s' wr ob x) r:=by
 unfold jW at h ⊢
 cases d with
 | none=>exact h
 | some t =>
   simp only at h ⊢
   split at h
   ·have h:(x [t],(⟨wr++[([t],some ob)],[t]⟩:Ef))=r:=h
    subst h
    rw [if_pos (hu t (by simp))]
    exact rfl
   ·exact h.elim
theorem ie {d:Option Nat} {s:St} {wr:List (Name × Option Ob)} {ob:Ob} {x:Name→AV} {r:AV × Ef} (h:ylE (jW d s wr ob x) r):∀ y∈r.2.nu,y ∉ s.used:=by
 unfold jW at h
 cases d with
 | none=>exact h.elim
 | some t =>
   simp only at h
   split at h
   ·rename_i ht
    have h:(x [t],(⟨wr++[([t],some ob)],[t]⟩:Ef))=r:=h
    subst h
    simpa using ht
   ·exact h.elim
theorem oe {n:Nat} {d:Option Nat} {s:St} {ob:Ob} {x:Name→AV} {r:AV × Ef} (hd:dOk n d) (h:ylE (jW d s [] ob x) r):(gz n d s ob x).run (fun s2=>s2=s.go d r.1 r.2) False:=by
 unfold jW at h
 cases d with
 | none=>exact h.elim
 | some t =>
   simp only at h
   split at h
   ·rename_i ht
    have h:(x [t],(⟨[]++[([t],some ob)],[t]⟩:Ef))=r:=h
    subst h
    have hd:t<n:=hd
    simp only [gz,hd,ht,not_false_eq_true,and_self,if_true,R.run]
    show _=(s.eff _).putd _ _
    rw [List.nil_append,nk]
    rfl
   ·exact h.elim
theorem zJ {n:Nat} {d:Option Nat} {s:St} {p:Name} {ob:Ob} {x:Name→AV} {r:AV × Ef} (hd:dOk n d) (h:ylE (jW d s [(p,none)] ob x) r):(gz n d (s.set p none) ob x).run (fun s2=>s2=s.go d r.1 r.2) False:=by
 unfold jW at h
 cases d with
 | none=>exact h.elim
 | some t =>
   simp only at h
   split at h
   ·rename_i ht
    have h:(x [t],(⟨[(p,none)]++[([t],some ob)],[t]⟩:Ef))=r:=h
    subst h
    have hd:t<n:=hd
    have ht':t ∉ (s.set p none).used:=ht
    simp only [gz,hd,ht',not_false_eq_true,and_self,if_true,R.run]
    show _=(s.eff _).putd _ _
    rw [List.cons_append,List.nil_append,xT]
    rfl
   ·exact h.elim
theorem zj (w:W) (hp hp':Name→Option Ob) (x:AV) (h:∀ p∈rdA x,hp' p=hp p):cB w hp' x=cB w hp x:=by
 cases x with
 | vw p o l=>simp only [cB,h p (by simp [rdA])]
 | d y=>cases y<;>rfl
 | _=>rfl
theorem vu {e:TI} {d:Option Nat} {s s':St} {x y:AV} {r:AV × Ef} (hx:∀ p∈rdA x,s'.hp p=s.hp p) (hy:∀ p∈rdA y,s'.hp p=s.hp p) (h:ylE (eH e d s x y) r) (hu:∀ z∈r.2.nu,z ∉ s'.used):ylE (eH e d s' x y) r:=by
 unfold eH at h ⊢
 rw [zj e.w s.hp s'.hp y hy]
 cases hl:cB e.w s.hp y with
 | none=>rw [hl] at h;exact h.elim
 | some ys =>
   rw [hl] at h
   cases x with
   | vw p o l =>
     simp only at h ⊢
     rw [hx p (by simp [rdA])]
     cases hp:s.hp p with
     | none=>rw [hp] at h;exact h.elim
     | some ob =>
       rw [hp] at h
       cases ob with
       | arrT ty w xs =>
         rcases ty with _ | ty
         rotate_left
         ·exact h.elim
         simp only at h ⊢
         split at h
         ·rename_i hw
          rw [if_pos hw]
          exact ⟨h.1,nw h.2 hu⟩
         ·exact h.elim
       | _=>exact h.elim
   | d z =>
     cases z with
     | nils=>exact ⟨h.1,nw h.2 hu⟩
     | _=>exact h.elim
   | _=>exact h.elim
theorem pG {e:TI} {d:Option Nat} {s:St} {x y:AV} {r:AV × Ef} (h:ylE (eH e d s x y) r):∀ z∈r.2.nu,z ∉ s.used:=by
 unfold eH at h
 cases hl:cB e.w s.hp y with
 | none=>rw [hl] at h;exact h.elim
 | some ys =>
   rw [hl] at h
   cases x with
   | vw p o l =>
     simp only at h
     cases hp:s.hp p with
     | none=>rw [hp] at h;exact h.elim
     | some ob =>
       rw [hp] at h
       cases ob with
       | arrT ty w xs =>
         rcases ty with _ | ty
         rotate_left
         ·exact h.elim
         simp only at h
         split at h
         ·exact ie h.2
         ·exact h.elim
       | _=>exact h.elim
   | d z =>
     cases z with
     | nils=>exact ie h.2
     | _=>exact h.elim
   | _=>exact h.elim
theorem sC {n:Nat} {e:TI} {d:Option Nat} {s:St} {x y:AV} {r:AV × Ef} (hd:dOk n d) (h:ylE (eH e d s x y) r):(ig n e d s x y).run (fun s2=>s2=s.go d r.1 r.2) False:=by
 unfold eH at h
 unfold ig
 cases hl:cB e.w s.hp y with
 | none=>rw [hl] at h;exact h.elim
 | some ys =>
   rw [hl] at h
   cases x with
   | vw p o l =>
     simp only at h ⊢
     cases hp:s.hp p with
     | none=>rw [hp] at h;exact h.elim
     | some ob =>
       rw [hp] at h
       cases ob with
       | arrT ty w xs =>
         rcases ty with _ | ty
         rotate_left
         ·exact h.elim
         simp only at h ⊢
         split at h
         ·rename_i hw
          rw [if_pos hw]
          exact ⟨h.1,zJ hd h.2⟩
         ·exact h.elim
       | _=>exact h.elim
   | d z =>
     cases z with
     | nils=>exact ⟨h.1,oe hd h.2⟩
     | _=>exact h.elim
   | _=>exact h.elim
theorem tc {α:Type} {x:AV × Ef} {g:α→AV × Ef} {f:α→R St} {k:St→Prop} {z:Prop} (hf:∀ a,g a=x→(f a).run k z):∀ {r:R α},ylE (r.bind fun a=>.ok (g a)) x→(r.bind f).run k z
 | .ok a,h=>hf a h
 | .need _ _,h=>⟨h.1,tc hf h.2⟩
 | .no,h=>h.elim
theorem gk {α:Type} {x:AV × Ef} {g:α→AV × Ef} (hg:∀ a,(g a).2.nu=[]):∀ {r:R α},ylE (r.bind fun a=>.ok (g a)) x→x.2.nu=[]
 | .ok a,h=>by have h:g a=x:=h;subst h;exact hg a
 | .need p r,h=>gk hg h.2
 | .no,h=>h.elim
def Call.isApp (c:Call):Bool:=match c.callee,c.args.toList,c.argTypes.toList with
 | .builtin .append,[_,_],[_,_]=>true
 | _,_,_=>false
theorem fo {tf:Nat→TI} {c:Call} {d:Option Nat} {s:St} (h:Call.isApp c=false):opE tf (.call c) d s=(opV tf (.call c) s).bind fun x=>.ok (x,ef0):=by
 obtain ⟨callee,args,ats⟩:=c
 obtain ⟨args⟩:=args
 obtain ⟨ats⟩:=ats
 unfold opE
 simp only
 split
 ·simp [Call.isApp] at h
 ·rfl
theorem rp {c:Call} (h:Call.isApp c=true):∃ x y t t',c={ callee:=.builtin .append,args:=[x,y].toArray,argTypes:=[t,t'].toArray }:=by
 obtain ⟨callee,args,ats⟩:=c
 obtain ⟨args⟩:=args
 obtain ⟨ats⟩:=ats
 unfold Call.isApp at h
 simp only at h
 split at h
 ·exact ⟨_,_,_,_,rfl⟩
 ·cases h
theorem Hi {tf:Nat→TI} {o:Op} {d:Option Nat} {s s':St} {r:AV × Ef} (hh:∀ p∈rdO s o,s'.hp p=s.hp p) (h:∀ x∈o.operands,ev s' x=ev s x) (hy:ylE (opE tf o d s) r) (hu:∀ y∈r.2.nu,y ∉ s'.used):ylE (opE tf o d s') r:=by
 cases o with
 | store t x v =>
   simp only [opE] at hy ⊢
   rw [h x (by simp [Op.operands]),h v (by simp [Op.operands]),y7 _ s s' _ _ hh]
   exact hy
 | alloc e =>
   simp only [opE] at hy ⊢
   split at hy
   ·exact nw hy hu
   ·exact hy.elim
 | buildSlice t l parts =>
   have:(parts.toList.map fun q=>(q.1,ev s' q.2))=parts.toList.map fun q=>(q.1,ev s q.2) :=
    List.map_congr_left fun q hq=>by rw [h q.2 (by simp only [Op.operands,List.mem_toArray,List.mem_map];exact ⟨q,hq,rfl⟩)]
   simp only [opE,this] at hy ⊢
   split at hy
   ·split at hy
    ·rename_i hc
     rw [if_pos hc]
     exact nw hy hu
    ·exact hy.elim
   ·exact hy.elim
 | call c =>
   cases hc:Call.isApp c with
   | false =>
     rw [fo hc] at hy ⊢
     rw [xH tf _ s s' hh h]
     exact hy
   | true =>
     obtain ⟨x,y,t,t',rfl⟩:=rp hc
     have ex:ev s' x=ev s x:=h x (by simp [Op.operands,Call.operands])
     have ey:ev s' y=ev s y:=h y (by simp [Op.operands,Call.operands])
     simp only [opE] at hy ⊢
     split at hy
     ·exact hy.elim
     ·rename_i ht
      rw [if_neg ht]
      split at hy
      ·split at hy
       ·rename_i e hk hz
        rw [if_pos hz,ex,ey]
        exact vu (fun p hp=>hh p (by simp [rdO,hp])) (fun p hp=>hh p (by simp [rdO,hp])) hy hu
       ·exact hy.elim
      ·exact hy.elim
 | _ =>
   simp only [opE] at hy ⊢
   rw [xH tf _ s s' hh h]
   exact hy
theorem yI {tf:Nat→TI} {o:Op} {d:Option Nat} {s:St} {r:AV × Ef} (hy:ylE (opE tf o d s) r):∀ y∈r.2.nu,y ∉ s.used:=by
 have none:r.2.nu=[]→∀ y∈r.2.nu,y ∉ s.used:=fun h y hy=>by rw [h] at hy;cases hy
 cases o with
 | store t x v=>exact none (gk (g:=fun q:Name × Ob=>(AV.un,(⟨[(q.1,some q.2)],[]⟩:Ef))) (fun _=>rfl) hy)
 | alloc e =>
   simp only [opE] at hy
   split at hy
   ·exact ie hy
   ·exact hy.elim
 | buildSlice t l parts =>
   simp only [opE] at hy
   split at hy
   ·split at hy
    ·exact ie hy
    ·exact hy.elim
   ·exact hy.elim
 | call c =>
   cases hc:Call.isApp c with
   | false =>
     rw [fo hc] at hy
     exact none (gk (g:=fun a:AV=>(a,ef0)) (fun _=>rfl) hy)
   | true =>
     obtain ⟨x,y,t,t',rfl⟩:=rp hc
     simp only [opE] at hy
     split at hy
     ·exact hy.elim
     ·split at hy
      ·split at hy
       ·exact pG hy
       ·exact hy.elim
      ·exact hy.elim
 | _=>exact none (gk (g:=fun a:AV=>(a,ef0)) (fun _=>rfl) hy)
def qvE (r:R (AV × Ef)) (f:AV × Ef→Prop) (z:Prop):Prop :=
 match r with
 | .ok x=>f x
 | .need p r=>p∧qvE r f z
 | .no=>z
theorem CM {f:AV × Ef→Prop} {z:Prop}:∀ {r:R (AV × Ef)},qvE r f z→(∃ x,ylE r x∧f x)∨z
 | .ok x,h=>.inl ⟨x,rfl,h⟩
 | .no,h=>.inr h
 | .need p r,h=>by
   rcases CM (r:=r) h.2 with ⟨x,h1,h2⟩ | hz
   ·exact .inl ⟨x,⟨h.1,h1⟩,h2⟩
   ·exact .inr hz
theorem zX {tf:Nat→TI} {n:Nat} {o:Op} {d:Option Nat} {s:St} {x:AV × Ef} (h:ylE ((opV tf o s).bind fun x=>.ok (x,ef0)) x):opR tf n o d s=(opV tf o s).bind (bZ n d s):=by
 rcases EJ tf n o d s with e | e
 ·rw [e] at h;exact h.elim
 ·exact e
theorem Dv {tf:Nat→TI} {n:Nat} {o:Op} {d:Option Nat} {s:St} {x:AV × Ef} (hd:dOk n d) (h:ylE (opE tf o d s) x):(opR tf n o d s).run (fun s2=>s2=s.go d x.1 x.2) False:=by
 have hput:∀ (s1:St) (v:AV),(bZ n d s1 v).run (fun s2=>s2=s1.putd d v) False:=fun s1 v=>by
  cases d with
  | none=>exact rfl
  | some t=>simp [bZ,show t<n from hd,R.run,St.putd]
 have quiet:ylE ((opV tf o s).bind fun x=>.ok (x,ef0)) x→(opR tf n o d s).run (fun s2=>s2=s.go d x.1 x.2) False:=fun h=>by
  rw [zX h]
  exact tc (g:=fun a=>(a,ef0)) (fun a ha=>by
   subst ha
   show (bZ n d s a).run (fun s2=>s2=(s.eff ef0).putd d a) False
   rw [q0]
   exact hput _ _) h
 cases o with
 | store t a b =>
   simp only [opR,yZ]
   simp only [opE] at h
   have key:∀ r:R (Name × Ob),ylE (r.bind fun q=>.ok (.un,⟨[(q.1,some q.2)],[]⟩)) x→((r.bind fun q=>.ok (s.set q.1 (some q.2))).bind fun s'=>bZ n d s' .un).run (fun s2=>s2=s.go d x.1 x.2) False:=by
    intro r
    induction r with
    | ok q =>
      intro h
      have h:(AV.un,(⟨[(q.1,some q.2)],[]⟩:Ef))=x:=h
      subst h
      show (bZ n d (s.set q.1 (some q.2)) .un).run (fun s2=>s2=(s.eff ⟨[(q.1,some q.2)],[]⟩).putd d .un) False
      rw [qZ]
      exact hput _ _
    | need p r ih=>exact fun h=>⟨h.1,ih h.2⟩
    | no=>exact fun h=>h.elim
   exact key _ h
 | alloc e =>
   simp only [opE] at h
   simp only [opR]
   split at h
   ·rename_i cs hz
    rw [hz]
    exact oe hd h
   ·exact h.elim
 | buildSlice t l parts =>
   simp only [opE] at h
   simp only [opR]
   split at h
   ·rename_i e xs h1 h2
    rw [h1,h2]
    split at h
    ·rename_i hc
     simp only [if_pos hc]
     exact oe hd h
    ·exact h.elim
   ·exact h.elim
 | call c =>
   cases hc:Call.isApp c with
   | false =>
     rw [fo hc] at h
     exact quiet h
   | true =>
     obtain ⟨a,b,t,t',rfl⟩:=rp hc
     simp only [opE] at h
     simp only [opR,ky,List.map_cons,List.map_nil]
     split at h
     ·exact h.elim
     ·rename_i ht
      rw [if_neg ht]
      split at h
      ·rename_i e hk
       rw [hk]
       split at h
       ·rename_i hz
        simp only [if_pos hz]
        exact sC hd h
       ·exact h.elim
      ·exact h.elim
 | _=>exact quiet h
section
variable (P:Program) (cf:Cf) (ops:Array Oper)
abbrev Fp:=List Name × Ef
abbrev Ns:=List (List Name × List Name × List Nat)
def QE (o:Oper) (s:St) (x:AV) (f:Fp):Prop:=∀ s',(∀ y∈f.2.nu,y ∉ s'.used)→(∀ p∈f.1,s'.hp p=s.hp p)→(∀ y∈o.op.operands,ev s' y=ev s y) →
 ∀ B,cf.fits B→∀ ds β a w,a.defers=ds→Sim B β s' a.tmps w→∀ Q',o.wpIn (Fw cf.ro) 0 P a w (fun a' w'=>a'.defers=ds∧∃ β',Sim B β' (s'.go o.dst x f.2) a'.tmps w') Q'
def fpN (f:Fp):List Name × List Name × List Nat:=(f.1,f.2.wr.map (·.1),f.2.nu)
def xrun (K:St→Ns→Prop):List Oper→St→Ns→Prop
 | [],s,ns=>K s ns
 | o::r,s,ns =>
   match o.guard with
   | none=>qvE (opE P.ti o.op o.dst s) (fun x=>dOk cf.n o.dst∧xrun K r (s.go o.dst x.1 x.2) (ns++[fpN (rdO s o.op,x.2)])) (∃ x f,QE P cf o s x f∧(∀ y∈f.2.nu,y ∉ s.used)∧dOk cf.n o.dst∧xrun K r (s.go o.dst x f.2) (ns++[fpN f]))
   | some (j,want) =>
     match e7 ops j s with
     | some (t,.d (.bool b)) =>
       (b=want→qvE (opE P.ti o.op o.dst (s.put t (.d (.bool want)))) (fun x=>dOk cf.n o.dst∧xrun K r ((s.put t (.d (.bool want))).go o.dst x.1 x.2) (ns++[fpN (rdO (s.put t (.d (.bool want))) o.op,x.2)])) (∃ x f,QE P cf o (s.put t (.d (.bool want))) x f∧(∀ y∈f.2.nu,y ∉ (s.put t (.d (.bool want))).used)∧dOk cf.n o.dst∧xrun K r ((s.put t (.d (.bool want))).go o.dst x f.2) (ns++[fpN f]))) ∧
       (b=!want→dOk cf.n o.dst∧xrun K r ((s.put t (.d (.bool (!want)))).go o.dst (.tup []) ef0) (ns++[([],[],[])]))
     | some (_,.tup [])=>dOk cf.n o.dst∧xrun K r (s.go o.dst (.tup []) ef0) (ns++[([],[],[])])
     | _=>False
def agE (l:List Nat) (f:Fp) (s s':St):Prop:=(∀ y∈f.2.nu,y ∉ s'.used)∧(∀ p∈f.1,s'.hp p=s.hp p)∧∀ t∈l,s'.fr t=s.fr t
def n6 (i:Nat) (o:Oper) (s:St) (x:AV) (f:Fp):Prop:=(∀ y∈f.2.nu,y ∉ s.used)∧∀ s',agE (o.looksAt ops) f s s'→∀ B,cf.fits B→∀ ds β a w,a.defers=ds→Sim B β s' a.tmps w→∀ Q',
 wpOpIn (Fw cf.ro) 0 P ops Q' i (fun a' w'=>a'.defers=ds∧∃ β',Sim B β' (s'.go o.dst x f.2) a'.tmps w') a w
variable {P cf ops}
theorem x9 {o:Oper} {f:Fp} {s s':St} (h:agE (o.looksAt ops) f s s'):∀ y∈o.op.operands,ev s' y=ev s y:=fun y hy =>
 Ia fun t ht=>h.2.2 t (by subst ht;exact List.mem_append_left _ (List.mem_filterMap.2 ⟨.tmp t,by simpa using hy,rfl⟩))
theorem Cb {o:Oper} {s:St} {x:AV × Ef} (h:ylE (opE P.ti o.op o.dst s) x) (hd:dOk cf.n o.dst):QE P cf o s x.1 (rdO s o.op,x.2):=by
 intro s' hu hh he B hB ds β a w hds hs Q'
 have e:=Hi hh he h hu
 have hr:=Dv (n:=B.n) (d:=o.dst) (s:=s') (by rw [hB.1];exact hd) e
 rcases fu hs hr with hz | ⟨nx,v,w',s2,β',hrun,hnx,rfl,hsim⟩
 ·exact hz.elim
 ·have hnd:∀ c,o.op≠.defer c:=by
   intro c hc
   rw [hc] at h
   exact h.elim
  exact aK hnd hrun hnx ⟨by cases o.dst<;>exact hds,β',hsim⟩
theorem A7 (s:St) (d:Option Nat) (x:AV):s.go d x ef0=s.putd d x:=by unfold St.go;rw [q0]
theorem oc {i:Nat} {o:Oper} {s:St} (hi:ops[i]?=some o) (hd:dOk cf.n o.dst) (hw:∀ (B:Base) (β:Name→Option Blk) s' tm w,agE (o.looksAt ops) ([],ef0) s s'→Sim B β s' tm w→Region.wanted o (yielded ops tm)=false):n6 P cf ops i o s (.tup []) ([],ef0):=by
 refine ⟨fun y hy=>(by cases hy),fun s' hag B hB ds β a w hds hs Q'=>?_⟩
 unfold wpOpIn
 simp only [hi,hw B β s' a.tmps w hag hs,Bool.false_eq_true,if_false]
 refine ⟨fun _ _=>trivial,by cases o.dst<;>exact hds,β,?_⟩
 rw [A7]
 refine hs.putd (fun t ht=>?_) (.tup #[] [] rfl (by simp))
 rw [ht] at hd
 rw [hB.1];exact hd
theorem uy {i:Nat} {o:Oper} {s:St} {x:AV} {f:Fp} (hi:ops[i]?=some o) (hf:∀ y∈f.2.nu,y ∉ s.used) (hw:∀ (B:Base) (β:Name→Option Blk) s' tm w,agE (o.looksAt ops) f s s'→Sim B β s' tm w→Region.wanted o (yielded ops tm)=true) (h:QE P cf o s x f):n6 P cf ops i o s x f:=by
 refine ⟨hf,fun s' hag B hB ds β a w hds hs Q'=>?_⟩
 unfold wpOpIn
 simp only [hi,hw B β s' a.tmps w hag hs,if_true]
 exact h s' hag.1 hag.2.1 (x9 hag) B hB ds β a w hds hs Q'
theorem CF {K:St→Ns→Prop} {i:Nat} {o:Oper} {r:List Oper} {s:St} {ns:Ns} (hi:ops[i]?=some o) (h:xrun P cf ops K (o::r) s ns):∃ x f,n6 P cf ops i o s x f∧xrun P cf ops K r (s.go o.dst x f.2) (ns++[fpN f]):=by
 unfold xrun at h
 have go:∀ s1,s1=s→(∀ (f:Fp) (B:Base) (β:Name→Option Blk) s' tm w,agE (o.looksAt ops) f s s'→Sim B β s' tm w→Region.wanted o (yielded ops tm)=true) →
   qvE (opE P.ti o.op o.dst s1) (fun x=>dOk cf.n o.dst∧xrun P cf ops K r (s1.go o.dst x.1 x.2) (ns++[fpN (rdO s1 o.op,x.2)])) (∃ x f,QE P cf o s1 x f∧(∀ y∈f.2.nu,y ∉ s1.used)∧dOk cf.n o.dst∧xrun P cf ops K r (s1.go o.dst x f.2) (ns++[fpN f])) →
   ∃ x f,n6 P cf ops i o s x f∧xrun P cf ops K r (s.go o.dst x f.2) (ns++[fpN f]):=by
  rintro s1 rfl hw h
  rcases CM h with ⟨x,h1,hd,h2⟩ | ⟨x,f,h1,hn,_,h2⟩
  ·exact ⟨x.1,_,uy hi (yI h1) (hw _) (Cb h1 hd),h2⟩
  ·exact ⟨x,f,uy hi hn (hw _) h1,h2⟩
 cases hg:o.guard with
 | none =>
   rw [hg] at h
   exact go s rfl (fun _ _ _ _ _ _ _ _=>by simp [Region.wanted,hg]) h
 | some q =>
   obtain ⟨j,want⟩:=q
   rw [hg] at h
   simp only at h
   split at h
   ·rename_i t b hgv
    obtain ⟨oj,hj,hjd,hjt⟩:=mB hgv
    have hl:=mA hg hj hjd
    by_cases hb:b=want
    ·have e:s.put t (.d (.bool want))=s:=n8 (by rw [hjt,hb])
     have h1:=h.1 hb
     rw [e] at h1
     refine go s rfl (fun f B β s' tm w hag hs=>?_) h1
     have:=kC hs hj hjd ((hag.2.2 t hl).trans hjt)
     simp [Region.wanted,hg,this,hb]
    ·have hbn:b=!want:=by cases b<;>cases want<;>simp_all
     have e:s.put t (.d (.bool (!want)))=s:=n8 (by rw [hjt,hbn])
     obtain ⟨hd,h2⟩:=h.2 hbn
     rw [e] at h2
     refine ⟨_,_,oc hi hd (fun B β s' tm w hag hs=>?_),h2⟩
     have:=kC hs hj hjd ((hag.2.2 t hl).trans hjt)
     simp [Region.wanted,hg,this,hb]
   ·rename_i t hgv
    obtain ⟨oj,hj,hjd,hjt⟩:=mB hgv
    have hl:=mA hg hj hjd
    refine ⟨_,_,oc hi h.1 (fun B β s' tm w hag hs=>?_),h.2⟩
    have:=sf hs hj hjd ((hag.2.2 t hl).trans hjt)
    simp [Region.wanted,hg,this]
   ·exact h.elim
end
end Go.Ab
namespace Go.Ab
theorem Sim.reuse {B:Base} {β:Name→Option Blk} {s s2:St} {tm:Array Value} {w:World} (h:Sim B β s tm w) (h1:s2.hp=s.hp) (h2:s2.fr=s.fr) (h3:∀ y,y∈s.used↔y∈s2.used):Sim B β s2 tm w:=by
 obtain ⟨fr,hp,us⟩:=s
 obtain ⟨fr2,hp2,us2⟩:=s2
 simp only at h1 h2 h3
 subst h1;subst h2
 have hst:∀ p,nm us p→Stays hp2 hp2 β β p:=fun p _ o ho=>⟨o,ho,Ob.cG _,rfl⟩
 have hu:∀ x∈us,x∈us2:=fun x hx=>(h3 x).1 hx
 exact { tms:=h.tms,io:=h.io,size:=h.size,frame:=h.frame,slots:=fun t=>(h.slots t).mono (fun _ _ h=>h) hu hst,objs:=fun p o ho=>⟨(h.objs p o ho).1.mono hu,(h.objs p o ho).2.mono (fun _ _ h=>h) hu hst rfl fun _ _=>rfl⟩,blocks:=h.blocks,inj:=h.inj,us:=fun x hx=>hu x (h.us x hx),stay:=h.stay }
section
variable {P:Program} {cf:Cf} {ops:Array Oper}
def fe (ops:Array Oper) (xs:Nat→AV) (fs:Nat→Fp):List Nat→St→St
 | [],s=>s
 | i::l,s=>fe ops xs fs l (s.go (dr ops i) (xs i) (fs i).2)
theorem qt (xs:Nat→AV) (fs:Nat→Fp) (i:Nat):∀ (l:List Nat) (s:St),fe ops xs fs (l++[i]) s=(fe ops xs fs l s).go (dr ops i) (xs i) (fs i).2
 | [],_=>rfl
 | j::l,s=>by rw [List.cons_append,fe,qt xs fs i l,fe]
theorem Fv (s:St) (d:Option Nat) (x:AV) (e:Ef):(s.go d x e).used=e.nu++s.used:=by
 unfold St.go
 rw [zy]
 rfl
theorem Iz (s:St) (d:Option Nat) (x:AV) (e:Ef) (t:Nat):(s.go d x e).fr t=if d=some t then x else s.fr t:=by
 unfold St.go
 cases d with
 | none=>simp [St.putd,St.eff]
 | some u =>
   show dJ _ _ _ _=_
   simp only [dJ,Option.some.injEq]
   by_cases h:t=u
   ·rw [if_pos h,if_pos h.symm]
   ·rw [if_neg h,if_neg (fun e=>h e.symm)]
    rfl
theorem HX (s:St) (d:Option Nat) (x:AV) (e:Ef) (p:Name):(s.go d x e).hp p=(wl e.wr p).getD (s.hp p):=by
 unfold St.go
 rw [Fc]
 rfl
theorem vf:∀ {wr:List (Name × Option Ob)} {p:Name} {v:Option Ob},wl wr p=some v→p∈wr.map (·.1)
 | [],_,_,h=>by cases h
 | q::r,p,v,h=>by
   unfold wl at h
   cases hr:wl r p with
   | some u=>exact List.mem_cons_of_mem _ (vf hr)
   | none =>
     rw [hr] at h
     simp only at h
     split at h
     ·rename_i e;rw [e];exact List.mem_cons_self
     ·cases h
structure OKE (ops:Array Oper) (xs:Nat→AV) (fs:Nat→Fp) (s:St) (L:List Nat) (s':St):Prop where
 used:∀ y,y∈s'.used↔y∈s.used∨∃ k∈L,y∈(fs k).2.nu
 slot:∀ t,(∃ k∈L,dr ops k=some t∧s'.fr t=xs k)∨((∀ k∈L,dr ops k≠some t)∧s'.fr t=s.fr t)
 heap:∀ p,(∃ k∈L,∃ v,wl (fs k).2.wr p=some v∧(∀ k'∈L,(∃ v',wl (fs k').2.wr p=some v')→k'≤k)∧s'.hp p=v)∨((∀ k∈L,wl (fs k).2.wr p=none)∧s'.hp p=s.hp p)
theorem OKE.nil (xs:Nat→AV) (fs:Nat→Fp) (s:St):OKE ops xs fs s [] s:=⟨fun _=>by simp,fun _=>.inr ⟨by simp,rfl⟩,fun _=>.inr ⟨by simp,rfl⟩⟩
theorem OKE.snoc {xs:Nat→AV} {fs:Nat→Fp} {s s':St} {L:List Nat} {i:Nat} (h:OKE ops xs fs s L s') (hw:∀ k∈L,∀ p v v',wl (fs k).2.wr p=some v→wl (fs i).2.wr p=some v'→k≤i) :
  OKE ops xs fs s (L++[i]) (s'.go (dr ops i) (xs i) (fs i).2):=by
 refine ⟨fun y=>?_,fun t=>?_,fun p=>?_⟩
 ·rw [Fv,List.mem_append,h.used y]
  constructor
  ·rintro (h1 | h1 | ⟨k,hk,h1⟩)
   ·exact .inr ⟨i,by simp,h1⟩
   ·exact .inl h1
   ·exact .inr ⟨k,List.mem_append_left _ hk,h1⟩
  ·rintro (h1 | ⟨k,hk,h1⟩)
   ·exact .inr (.inl h1)
   ·rcases List.mem_append.1 hk with hk | hk
    ·exact .inr (.inr ⟨k,hk,h1⟩)
    ·rw [List.mem_singleton.1 hk] at h1;exact .inl h1
 ·rw [Iz]
  by_cases hd:dr ops i=some t
  ·exact .inl ⟨i,by simp,hd,by rw [if_pos hd]⟩
  ·rw [if_neg hd]
   rcases h.slot t with ⟨k,hk,h1,h2⟩ | ⟨h1,h2⟩
   ·exact .inl ⟨k,List.mem_append_left _ hk,h1,h2⟩
   ·refine .inr ⟨fun k hk=>?_,h2⟩
    rcases List.mem_append.1 hk with hk | hk
    ·exact h1 k hk
    ·rw [List.mem_singleton.1 hk];exact hd
 ·rw [HX]
  cases he:wl (fs i).2.wr p with
  | some o =>
    refine .inl ⟨i,by simp,o,he,fun k' hk' ⟨o',ho'⟩=>?_,rfl⟩
    rcases List.mem_append.1 hk' with hk' | hk'
    ·exact hw k' hk' p o' o ho' he
    ·rw [List.mem_singleton.1 hk'];exact Nat.le_refl _
  | none =>
    show _∨(_∧s'.hp p=_)
    rcases h.heap p with ⟨k,hk,o,h1,h2,h3⟩ | ⟨h1,h2⟩
    ·refine .inl ⟨k,List.mem_append_left _ hk,o,h1,fun k' hk' ho'=>?_,h3⟩
     rcases List.mem_append.1 hk' with hk' | hk'
     ·exact h2 k' hk' ho'
     ·rw [List.mem_singleton.1 hk',he] at ho'
      obtain ⟨_,ho'⟩:=ho'
      cases ho'
    ·refine .inr ⟨fun k hk=>?_,h2⟩
     rcases List.mem_append.1 hk with hk | hk
     ·exact h1 k hk
     ·rw [List.mem_singleton.1 hk];exact he
inductive Anc (ops:Array Oper):Nat→Nat→Prop
 | one {i:Nat} {o:Oper} {e:Edge} (ho:ops[i]?=some o) (he:e∈o.after) (hb:Region.binds .any e=true):Anc ops i e.on
 | tr {i:Nat} {o:Oper} {e:Edge} {k:Nat} (ho:ops[i]?=some o) (he:e∈o.after) (hb:Region.binds .any e=true) (h:Anc ops e.on k):Anc ops i k
def ma (acc:List (List Nat)) (o:Oper):List Nat:=((o.after.toList.filter (Region.binds .any)).flatMap fun e=>e.on::acc.getD e.on []).eraseDups
def ancs:List (List Nat)→List Oper→List (List Nat)
 | acc,[]=>acc
 | acc,o::r=>ancs (acc++[ma acc o]) r
theorem j4:∀ (r:List Oper) (acc:List (List Nat)),(∀ j,r[j]?=ops[acc.length+j]?)→(∀ i k,k∈acc.getD i []→Anc ops i k)→∀ i k,k∈(ancs acc r).getD i []→Anc ops i k
 | [],_,_,h=>h
 | o::r,acc,hr,h=>by
   refine j4 r (acc++[ma acc o]) (fun j=>?_) (fun i k hk=>?_)
   ·have:=hr (j+1)
    rw [List.getElem?_cons_succ] at this
    rw [this,List.length_append,List.length_singleton,show acc.length+(j+1)=acc.length+1+j by omega]
   ·have ho:ops[acc.length]?=some o:=by simpa using (hr 0).symm
    by_cases hi:i<acc.length
    ·refine h i k ?_
     rw [List.getD_eq_getElem?_getD,List.getElem?_append_left hi] at hk
     rw [List.getD_eq_getElem?_getD];exact hk
    ·by_cases hi2:i=acc.length
     ·subst hi2
      have:(acc++[ma acc o]).getD acc.length []=ma acc o:=by simp
      rw [this] at hk
      unfold ma at hk
      rw [List.mem_eraseDups,List.mem_flatMap] at hk
      obtain ⟨e,he,hk⟩:=hk
      rw [List.mem_filter] at he
      have he1:e∈o.after:=Array.mem_toList_iff.1 he.1
      rcases List.mem_cons.1 hk with rfl | hk
      ·exact .one ho he1 he.2
      ·exact .tr ho he1 he.2 (h _ _ hk)
     ·have:(acc++[ma acc o]).getD i []=[]:=by
       rw [List.getD_eq_getElem?_getD,List.getElem?_eq_none (by simp;omega)];rfl
      rw [this] at hk;cases hk
theorem ic {listed:Array Bool} {L:List Nat} (hu:Up ops listed L) {i k:Nat} (h:Anc ops i k):i∈L→k∈L:=by
 induction h with
 | one ho he hb=>exact fun hi=>hu.closed _ hi _ ho _ he hb
 | tr ho he hb _ ih=>exact fun hi=>ih (hu.closed _ hi _ ho _ he hb)
theorem lH {listed:Array Bool} {L:List Nat} (hu:Up ops listed L) {i k:Nat} {o:Oper} (ho:ops[i]?=some o) (hw:∀ e∈o.after,Region.binds .any e=true→e.on∈L) (h:Anc ops i k):k∈L:=by
 cases h with
 | one ho' he hb =>
   rw [ho] at ho';cases ho'
   exact hw _ he hb
 | tr ho' he hb h2 =>
   rw [ho] at ho';cases ho'
   exact ic hu h2 (hw _ he hb)
def EW (A:List (List Nat)) (i k:Nat):Bool:=(decide (k<i) && (A.getD i []).contains k) || (decide (i<k) && (A.getD k []).contains i)
def chk (ops:Array Oper) (ns:Ns):Bool :=
 let A:=ancs [] ops.toList
 (List.range ops.size).all fun i =>
  (match ops[i]? with
   | some o=>o.after.toList.all fun e=>!Region.binds .any e || decide (e.on<i)
   | none=>true) &&
  (List.range ops.size).all fun k =>
   (match dr ops k with
    | none=>true
    | some t=>(decide (i=k) || dr ops i != some t) && (!(q5 ops i).contains t || EW A i k)) &&
   ((ns.getD k ([],[],[])).2.1.all fun p=>decide (i=k) || (!(ns.getD i ([],[],[])).1.contains p && !(ns.getD i ([],[],[])).2.1.contains p) || EW A i k) &&
   ((ns.getD k ([],[],[])).2.2.all fun y=>decide (i=k) || !(ns.getD i ([],[],[])).2.2.contains y)
def bef (ops:Array Oper) (i k:Nat):Prop:=(k<i∧Anc ops i k)∨(i<k∧Anc ops k i)
theorem ui {i k:Nat} (h:EW (ancs [] ops.toList) i k=true):bef ops i k:=by
 have hs:=j4 (ops:=ops) ops.toList [] (fun j=>by simp) (fun i k hk=>by simp at hk)
 simp only [EW,Bool.or_eq_true,Bool.and_eq_true,decide_eq_true_eq,List.contains_eq_mem] at h
 rcases h with ⟨h1,h2⟩ | ⟨h1,h2⟩
 ·exact .inl ⟨h1,hs _ _ h2⟩
 ·exact .inr ⟨h1,hs _ _ h2⟩
section
variable {ns:Ns} (h:chk ops ns=true)
include h
theorem qg {i:Nat} {o:Oper} (ho:ops[i]?=some o):∀ e∈o.after,Region.binds .any e=true→e.on<i:=by
 intro e he hb
 have hi:i<ops.size:=by
  rcases Nat.lt_or_ge i ops.size with hlt | hge
  ·exact hlt
  ·rw [Array.getElem?_eq_none hge] at ho;cases ho
 have h2:=List.all_eq_true.1 h i (List.mem_range.2 hi)
 simp only [ho,Bool.and_eq_true] at h2
 have h3:=List.all_eq_true.1 h2.1 e (Array.mem_toList_iff.2 he)
 simpa [hb] using h3
theorem gA {i k:Nat} (hi:i<ops.size) (hk:k<ops.size):(∀ t,dr ops k=some t→(i=k∨dr ops i≠some t)∧(t∈q5 ops i→bef ops i k)) ∧
  (∀ p,p∈(ns.getD k ([],[],[])).2.1→i=k∨(p ∉ (ns.getD i ([],[],[])).1∧p ∉ (ns.getD i ([],[],[])).2.1)∨bef ops i k) ∧
  ∀ y,y∈(ns.getD k ([],[],[])).2.2→i=k∨y ∉ (ns.getD i ([],[],[])).2.2:=by
 have h2:=List.all_eq_true.1 h i (List.mem_range.2 hi)
 simp only [Bool.and_eq_true] at h2
 have h3:=List.all_eq_true.1 h2.2 k (List.mem_range.2 hk)
 simp only [Bool.and_eq_true] at h3
 refine ⟨fun t ht=>?_,fun p hp=>?_,fun y hy=>?_⟩
 ·have h4:=h3.1.1
  rw [ht] at h4
  simp only [Bool.and_eq_true,Bool.or_eq_true,decide_eq_true_eq,bne_iff_ne,ne_eq,Bool.not_eq_true',List.contains_eq_mem,decide_eq_false_iff_not] at h4
  exact ⟨h4.1,fun hl=>h4.2.elim (fun h5=>absurd hl h5) ui⟩
 ·have h4:=List.all_eq_true.1 h3.1.2 p hp
  simp only [Bool.or_eq_true,Bool.and_eq_true,decide_eq_true_eq,Bool.not_eq_true',List.contains_eq_mem,decide_eq_false_iff_not] at h4
  rcases h4 with (h4 | h4) | h4
  ·exact .inl h4
  ·exact .inr (.inl h4)
  ·exact .inr (.inr (ui h4))
 ·have h4:=List.all_eq_true.1 h3.2 y hy
  simp only [Bool.or_eq_true,decide_eq_true_eq,Bool.not_eq_true',List.contains_eq_mem,decide_eq_false_iff_not] at h4
  exact h4
end
theorem kj {K:St→Ns→Prop}:∀ (r:List Oper) (i:Nat) (s:St) (ns:Ns),(∀ j,(r[j]?=ops[i+j]?))→xrun P cf ops K r s ns →
  ∃ (xs:Nat→AV) (fs:Nat→Fp),K (fe ops xs fs (List.range' i r.length) s) (ns++(List.range' i r.length).map fun j=>fpN (fs j))∧∀ j o,i≤j→ops[j]?=some o→n6 P cf ops j o (fe ops xs fs (List.range' i (j-i)) s) (xs j) (fs j)
 | [],i,s,ns,hr,h=>⟨fun _=>.un,fun _=>([],ef0),by simpa [xrun,fe] using h,fun j o hij ho=>by
  have:=hr (j-i)
  rw [show i+(j-i)=j by omega,ho] at this
  simp at this⟩
 | o::r,i,s,ns,hr,h=>by
   have hi:ops[i]?=some o:=by simpa using (hr 0).symm
   obtain ⟨x,f,hf,h2⟩:=CF hi h
   obtain ⟨xs,fs,hK,hall⟩:=kj r (i+1) _ _ (fun j=>by have:=hr (j+1);rw [List.getElem?_cons_succ] at this;rw [this,show i+(j+1)=i+1+j by omega]) h2
   obtain ⟨ys,hys⟩:∃ ys:Nat→AV,ys=fun j=>if j=i then x else xs j:=⟨_,rfl⟩
   obtain ⟨gs,hgs⟩:∃ gs:Nat→Fp,gs=fun j=>if j=i then f else fs j:=⟨_,rfl⟩
   have hd:dr ops i=o.dst:=by simp [dr,hi]
   have e1:∀ (n k:Nat) (s:St),i<k→fe ops ys gs (List.range' k n) s=fe ops xs fs (List.range' k n) s:=by
    intro n
    induction n with
    | zero=>intros;rfl
    | succ n ih =>
      intro k s hk
      rw [List.range'_succ,fe,fe,ih (k+1) _ (by omega),hys,hgs]
      simp only [if_neg (show ¬ k=i by omega)]
   have e2:∀ (n k:Nat),i<k→((List.range' k n).map fun j=>fpN (gs j))=(List.range' k n).map fun j=>fpN (fs j):=by
    intro n k hk
    refine List.map_congr_left fun j hj=>?_
    rw [List.mem_range'_1] at hj
    rw [hgs]
    simp only [if_neg (show ¬ j=i by omega)]
   have hyi:ys i=x:=by rw [hys];simp
   have hgi:gs i=f:=by rw [hgs];simp
   refine ⟨ys,gs,?_,fun j o' hij ho'=>?_⟩
   ·rw [List.length_cons,List.range'_succ,fe,hd,hyi,hgi,e1 _ _ _ (by omega),List.map_cons,hgi,e2 _ _ (by omega)]
    simpa using hK
   ·rcases Nat.lt_or_ge i j with hlt | hge
    ·have:=hall j o' (by omega) ho'
     rw [show j-i=(j-(i+1))+1 by omega,List.range'_succ,fe,hd,hyi,hgi,e1 _ _ _ (by omega)]
     rw [show ys j=xs j by rw [hys];simp only [if_neg (show ¬ j=i by omega)],show gs j=fs j by rw [hgs];simp only [if_neg (show ¬ j=i by omega)]]
     exact this
    ·have:j=i:=by omega
     subst this
     rw [hi] at ho'
     cases ho'
     rw [Nat.sub_self,hyi,hgi]
     exact hf
section
variable {xs:Nat→AV} {fs:Nat→Fp} {s:St} {ns:Ns} (hq:chk ops ns=true) (hns:∀ i,i<ops.size→ns.getD i ([],[],[])=fpN (fs i))
include hq hns
theorem vh {i k:Nat} (hi:i<ops.size) (hk:k<ops.size) (hne:i≠k) {p:Name} {v:Option Ob} (hw:wl (fs k).2.wr p=some v) (hl:p∈(fs i).1∨∃ v',wl (fs i).2.wr p=some v'):bef ops i k:=by
 have h1:=(gA hq hi hk).2.1 p (by rw [hns k hk];exact vf hw)
 rcases h1 with h1 | ⟨h1,h2⟩ | h1
 ·exact absurd h1 hne
 ·rw [hns i hi] at h1 h2
  rcases hl with hl | ⟨v',hl⟩
  ·exact absurd hl h1
  ·exact absurd (vf hl) h2
 ·exact h1
omit hq hns in
theorem xC:∀ n,n≤ops.size→OKE ops xs fs s (List.range' 0 n) (fe ops xs fs (List.range' 0 n) s):=by
 intro n
 induction n with
 | zero=>exact fun _=>.nil _ _ _
 | succ n ih =>
   intro hn
   have:=(ih (by omega)).snoc (i:=n) (fun k hk _ _ _ _ _=>by rw [List.mem_range'_1] at hk;omega)
   rw [List.range'_concat,Nat.one_mul,Nat.zero_add,qt]
   exact this
theorem pM {listed:Array Bool} {L:List Nat} (hu:Up ops listed L) {s':St} (hL:OKE ops xs fs s L s') {i:Nat} {o:Oper} (ho:ops[i]?=some o) (hi:i ∉ L)
  (hw:∀ e∈o.after,Region.binds .any e=true→e.on∈L) (hfr:∀ y∈(fs i).2.nu,y ∉ (fe ops xs fs (List.range' 0 (i-0)) s).used):agE (o.looksAt ops) (fs i) (fe ops xs fs (List.range' 0 (i-0)) s) s':=by
 have hlt:i<ops.size:=by
  rcases Nat.lt_or_ge i ops.size with hlt | hge
  ·exact hlt
  ·rw [Array.getElem?_eq_none hge] at ho;cases ho
 rw [Nat.sub_zero] at hfr ⊢
 have hT:=xC (ops:=ops) (fs:=fs) (s:=s) (xs:=xs) i (by omega)
 have go:∀ k,bef ops i k→(k<i↔k∈L):=fun k hb=>by
  rcases hb with ⟨h1,h2⟩ | ⟨h1,h2⟩
  ·exact ⟨fun _=>lH hu ho hw h2,fun _=>h1⟩
  ·exact ⟨fun h=>by omega,fun h=>absurd (ic hu h2 h) hi⟩
 have hdst:∀ a b t,dr ops a=some t→dr ops b=some t→a=b:=fun a b t ha hb =>
  ((gA hq (gH ha) (gH hb)).1 t hb).1.elim id (fun h=>absurd ha h)
 refine ⟨fun y hy hu'=>?_,fun p hp=>?_,fun t ht=>?_⟩
 ·rcases (hL.used y).1 hu' with h1 | ⟨k,hk,h1⟩
  ·exact hfr y hy ((hT.used y).2 (.inl h1))
  ·rcases (gA hq hlt (hu.lt k hk)).2.2 y (by rw [hns k (hu.lt k hk)];exact h1) with h2 | h2
   ·exact hi (h2 ▸ hk)
   ·rw [hns i hlt] at h2;exact h2 hy
 ·have key:∀ k,k<ops.size→∀ ob,wl (fs k).2.wr p=some ob→i≠k→(k<i↔k∈L):=fun k hk ob hob hne=>go k (vh hq hns hlt hk hne hob (.inl hp))
  rcases hT.heap p with ⟨k,hk,ob,h1,h2,h3⟩ | ⟨h1,h2⟩
  ·rw [List.mem_range'_1] at hk
   have hkL:k∈L:=(key k (by omega) ob h1 (by omega)).1 (by omega)
   rcases hL.heap p with ⟨k2,hk2,ob2,g1,g2,g3⟩ | ⟨g1,_⟩
   ·have hk2i:k2<i:=(key k2 (hu.lt k2 hk2) ob2 g1 (fun e=>hi (e ▸ hk2))).2 hk2
    have a1:=h2 k2 (by rw [List.mem_range'_1];omega) ⟨ob2,g1⟩
    have a2:=g2 k hkL ⟨ob,h1⟩
    have:k=k2:=by omega
    subst this
    rw [h1] at g1
    cases g1
    rw [g3,h3]
   ·rw [g1 k hkL] at h1;cases h1
  ·rcases hL.heap p with ⟨k2,hk2,ob2,g1,_,_⟩ | ⟨_,g2⟩
   ·have hk2i:k2<i:=(key k2 (hu.lt k2 hk2) ob2 g1 (fun e=>hi (e ▸ hk2))).2 hk2
    rw [h1 k2 (by rw [List.mem_range'_1];omega)] at g1;cases g1
   ·rw [g2,h2]
 ·have ht':t∈q5 ops i:=by unfold q5;rw [ho];exact ht
  rcases hT.slot t with ⟨k,hk,h1,h2⟩ | ⟨h1,h2⟩
  ·rw [List.mem_range'_1] at hk
   have hkL:k∈L:=(go k (((gA hq hlt (gH h1)).1 t h1).2 ht')).1 (by omega)
   rcases hL.slot t with ⟨k2,_,g1,g2⟩ | ⟨g1,_⟩
   ·rw [h2,g2,hdst k k2 t h1 g1]
   ·exact absurd h1 (g1 k hkL)
  ·rcases hL.slot t with ⟨k2,hk2,g1,_⟩ | ⟨_,g2⟩
   ·have:=(go k2 (((gA hq hlt (gH g1)).1 t g1).2 ht')).2 hk2
    exact absurd g1 (h1 k2 (by rw [List.mem_range'_1];omega))
   ·rw [g2,h2]
omit hns in
theorem qm {L:List Nat} {s':St} (hL:OKE ops xs fs s L s') (hlt:∀ j∈L,j<ops.size) (hall:∀ j,j<ops.size→j∈L):(s'.hp=(fe ops xs fs (List.range' 0 ops.size) s).hp∧s'.fr=(fe ops xs fs (List.range' 0 ops.size) s).fr)∧∀ y,y∈s'.used↔y∈(fe ops xs fs (List.range' 0 ops.size) s).used:=by
 have hT:=xC (ops:=ops) (fs:=fs) (s:=s) (xs:=xs) ops.size (Nat.le_refl _)
 have hdst:∀ a b t,dr ops a=some t→dr ops b=some t→a=b:=fun a b t ha hb =>
  ((gA hq (gH ha) (gH hb)).1 t hb).1.elim id (fun h=>absurd ha h)
 have hm:∀ k,k∈L↔k∈List.range' 0 ops.size:=fun k=>by
  rw [List.mem_range'_1]
  exact ⟨fun h=>by have:=hlt k h;omega,fun h=>hall k (by omega)⟩
 refine ⟨⟨funext fun p=>?_,funext fun t=>?_⟩,fun y=>?_⟩
 ·rcases hT.heap p with ⟨k,hk,ob,h1,h2,h3⟩ | ⟨h1,h2⟩
  ·rcases hL.heap p with ⟨k2,hk2,ob2,g1,g2,g3⟩ | ⟨g1,_⟩
   ·have a1:=h2 k2 ((hm k2).1 hk2) ⟨ob2,g1⟩
    have a2:=g2 k ((hm k).2 hk) ⟨ob,h1⟩
    have:k=k2:=by omega
    subst this
    rw [h1] at g1
    cases g1
    rw [g3,h3]
   ·rw [g1 k ((hm k).2 hk)] at h1;cases h1
  ·rcases hL.heap p with ⟨k2,hk2,ob2,g1,_,_⟩ | ⟨_,g2⟩
   ·rw [h1 k2 ((hm k2).1 hk2)] at g1;cases g1
   ·rw [g2,h2]
 ·rcases hT.slot t with ⟨k,hk,h1,h2⟩ | ⟨h1,h2⟩
  ·rcases hL.slot t with ⟨k2,_,g1,g2⟩ | ⟨g1,_⟩
   ·rw [h2,g2,hdst k k2 t h1 g1]
   ·exact absurd h1 (g1 k ((hm k).2 hk))
  ·rcases hL.slot t with ⟨k2,hk2,g1,_⟩ | ⟨_,g2⟩
   ·exact absurd g1 (h1 k2 ((hm k2).1 hk2))
   ·rw [g2,h2]
 ·rw [hL.used y,hT.used y]
  refine or_congr_right ⟨?_,?_⟩
  ·rintro ⟨k,hk,h1⟩;exact ⟨k,(hm k).1 hk,h1⟩
  ·rintro ⟨k,hk,h1⟩;exact ⟨k,(hm k).2 hk,h1⟩
omit hns in
theorem Dd {listed:Array Bool} {L:List Nat} (hu:Up ops listed L) (hr:Region.ready .any ops listed=[]):∀ j,j<ops.size→j∈L:=by
 intro j
 induction j using Nat.strongRecOn with
 | ind j ih =>
   intro hlt
   apply Decidable.byContradiction
   intro hn
   obtain ⟨o,ho⟩:∃ o,ops[j]?=some o:=⟨ops[j],by simp⟩
   have:j∈Region.ready .any ops listed:=by
    rw [mem_ready]
    refine ⟨?_,o,ho,fun e he hb=>?_⟩
    ·have:=hu.mem j hlt
     have hl:j<listed.size:=by rw [hu.size];exact hlt
     cases hv:listed[j] with
     | true=>exact absurd (this.1 (by simp [hl,hv])) hn
     | false=>simp [hl,hv]
    ·have h2:=qg hq ho e he hb
     have h3:=(hu.mem e.on (by omega)).2 (ih e.on h2 (by omega))
     simp [h3]
   rw [hr] at this;cases this
theorem I0 {B:Base} (hB:cf.fits B) {ds:List Deferred} {Q:Exit→Act→World→Prop}
  (hall:∀ j o,ops[j]?=some o→n6 P cf ops j o (fe ops xs fs (List.range' 0 (j-0)) s) (xs j) (fs j))
  (hK:∀ β a w,a.defers=ds→Sim B β (fe ops xs fs (List.range' 0 ops.size) s) a.tmps w→Q .normal a w) :
  ∀ (fuel:Nat) (listed:Array Bool) (L:List Nat) (s':St) (β:Name→Option Blk) (a:Act) (w:World),Up ops listed L→L.Nodup→ops.size≤fuel+L.length→a.defers=ds→OKE ops xs fs s L s'→Sim B β s' a.tmps w →
   wpAnyIn (Fw cf.ro) 0 P .any ops Q fuel listed a w:=by
 have fin:∀ (listed:Array Bool) (L:List Nat) (s':St) (β:Name→Option Blk) (a:Act) (w:World),Up ops listed L→a.defers=ds→OKE ops xs fs s L s'→Sim B β s' a.tmps w→Region.ready .any ops listed=[]→Q .normal a w:=by
  intro listed L s' β a w hu hds hL hs hr
  obtain ⟨⟨e1,e2⟩,e3⟩:=qm hq hL hu.lt (Dd hq hu hr)
  exact hK β a w hds (hs.reuse e1.symm e2.symm e3)
 intro fuel
 induction fuel with
 | zero =>
   intro listed L s' β a w hu hnd hn hds hL hs
   have hr:Region.ready .any ops listed=[]:=by
    apply List.eq_nil_iff_forall_not_mem.2
    intro j hj
    obtain ⟨h0,o,ho,_⟩:=mem_ready.1 hj
    have hlt:j<ops.size:=by
     rcases Nat.lt_or_ge j ops.size with hlt | hge
     ·exact hlt
     ·rw [Array.getElem?_eq_none hge] at ho;cases ho
    have hjL:j∈L:=by
     apply Decidable.byContradiction
     intro hn'
     have hsub:(j::L).length≤ops.size:=by
      refine jH ops.size (j::L) (List.nodup_cons.2 ⟨hn',hnd⟩) fun x hx=>?_
      rcases List.mem_cons.1 hx with rfl | hx
      ·exact hlt
      ·exact hu.lt x hx
     simp only [List.length_cons] at hsub
     omega
    have h3:=(hu.mem j hlt).2 hjL
    simp [h3] at h0
   exact ⟨hr,fin listed L s' β a w hu hds hL hs hr⟩
 | succ fuel ih =>
   intro listed L s' β a w hu hnd hn hds hL hs
   refine ⟨fun hr=>fin listed L s' β a w hu hds hL hs hr,fun i hi=>?_⟩
   obtain ⟨h0,o,ho,hw⟩:=mem_ready.1 hi
   have hlt:i<ops.size:=by
    rcases Nat.lt_or_ge i ops.size with hlt | hge
    ·exact hlt
    ·rw [Array.getElem?_eq_none hge] at ho;cases ho
   have hiL:i ∉ L:=fun h=>by
    have h3:=(hu.mem i hlt).2 h
    simp [h3] at h0
   have hwL:∀ e∈o.after,Region.binds .any e=true→e.on∈L:=fun e he hb=>by
    have h1:=hw e he hb
    have h2:=qg hq ho e he hb
    refine (hu.mem e.on (by omega)).1 ?_
    have hl:e.on<listed.size:=by rw [hu.size];omega
    simp [hl] at h1
    simp [hl,h1]
   have hd:dr ops i=o.dst:=by simp [dr,ho]
   refine wpOpIn_mono (fun a' w' ⟨hd',β',hs'⟩=>ih (listed.setIfInBounds i true) (L++[i]) _ β' a' w' ?_ ?_ ?_ hd' (hd ▸ hL.snoc ?_) hs') ((hall i o ho).2 _ (pM hq hns hu hL ho hiL hwL (hall i o ho).1) B hB ds β a w hds hs Q)
   ·refine ⟨by simpa using hu.size,fun j hj=>?_,fun j hj=>?_,fun j hj o' ho' e he hb=>?_⟩
    ·have hl:j<listed.size:=by rw [hu.size];exact hj
     by_cases hij:i=j
     ·subst hij;simp [hl]
     ·rw [Array.getElem?_setIfInBounds_ne hij,hu.mem j hj]
      simp [Ne.symm hij]
    ·rcases List.mem_append.1 hj with hj | hj
     ·exact hu.lt j hj
     ·rw [List.mem_singleton.1 hj];exact hlt
    ·rcases List.mem_append.1 hj with hj | hj
     ·exact List.mem_append_left _ (hu.closed j hj o' ho' e he hb)
     ·rw [List.mem_singleton.1 hj,ho] at ho'
      cases ho'
      exact List.mem_append_left _ (hwL e he hb)
   ·rw [List.nodup_append]
    exact ⟨hnd,by simp,fun x hx y hy=>by rw [List.mem_singleton.1 hy];rintro rfl;exact hiL hx⟩
   ·simp only [List.length_append,List.length_singleton];omega
   ·intro k hk p o1 o2 h1 h2
    have hne:i≠k:=fun e=>hiL (e ▸ hk)
    rcases vh hq hns hlt (hu.lt k hk) hne h1 (.inr ⟨o2,h2⟩) with ⟨h3,_⟩ | ⟨_,h4⟩
    ·omega
    ·exact absurd (ic hu h4 hk) hiL
end
theorem AE {id:Nat} {l:List Oper} {s:St} {k:List It} {Q:Exit→St→Prop} (hm:P.follows .mixedOrders=true) (h:xrun P cf l.toArray (fun s' ns=>chk l.toArray ns=true∧run P cf k Q s') l s []) :
  ACk P cf (.region id l.toArray true) s k Q:=by
 obtain ⟨xs,fs,⟨hq,hK⟩,hall⟩:=kj (ops:=l.toArray) l 0 s [] (fun j=>by simp) h
 intro B hB ds β a w hds hs
 refine wpIn_region_any hm ?_
 have hns:∀ i,i<l.toArray.size→(([]:Ns)++(List.range' 0 l.length).map fun j=>fpN (fs j)).getD i ([],[],[])=fpN (fs i):=by
  intro i hi
  have hi:i<l.length:=by simpa using hi
  simp [hi]
 refine I0 (ops:=l.toArray) hq hns hB (ds:=ds) (fun j o ho=>hall j o (Nat.zero_le _) ho) (fun β a w hds hs=>aW hK B hB ds β a w hds (by simpa using hs)) _ _ [] s β a _ ?_ List.nodup_nil (by simp) hds (.nil _ _ _) (hs.mX rfl rfl)
 refine ⟨by simp,fun j hj=>?_,by simp,by simp⟩
 have hj:j<l.length:=by simpa using hj
 simp [hj]
end
end Go.Ab
namespace Go.Ab
section
variable (P:Program) (cf:Cf) (ops:Array Oper) (K:St→Ns→Prop)
def xst (x:R (AV × Ef)) (o:Oper) (r:List Oper) (s:St) (ns:Ns):Prop :=
 qvE x (fun x=>dOk cf.n o.dst∧xrun P cf ops K r (s.go o.dst x.1 x.2) (ns++[fpN (rdO s o.op,x.2)])) (∃ x f,QE P cf o s x f∧(∀ y∈f.2.nu,y ∉ s.used)∧dOk cf.n o.dst∧xrun P cf ops K r (s.go o.dst x f.2) (ns++[fpN f]))
def xgd (v:Option (Nat × AV)) (want:Bool) (o:Oper) (r:List Oper) (s:St) (ns:Ns):Prop :=
 match v with
 | some (t,.d (.bool b)) =>
   (b=want→xst P cf ops K (opE P.ti o.op o.dst (s.put t (.d (.bool want)))) o r (s.put t (.d (.bool want))) ns) ∧
   (b=!want→dOk cf.n o.dst∧xrun P cf ops K r ((s.put t (.d (.bool (!want)))).go o.dst (.tup []) ef0) (ns++[([],[],[])]))
 | some (_,.tup [])=>dOk cf.n o.dst∧xrun P cf ops K r (s.go o.dst (.tup []) ef0) (ns++[([],[],[])])
 | _=>False
abbrev Jg (_:Oper) (_:List Oper) (_:St) (_:Ns):Type 1:=R (AV × Ef)
abbrev I3 (_:Bool) (_:Oper) (_:List Oper) (_:St) (_:Ns):Type:=Option (Nat × AV)
abbrev I2 (_:Option Nat) (_:AV) (_:List Oper):Type:=Ef
structure XEng where
 run:(r:List Oper)→ToQ r→Ns→Prop
 stp:(o:Oper)→(r:List Oper)→(s:St)→(ns:Ns)→Jg o r s ns→Prop
 gd:(w:Bool)→(o:Oper)→(r:List Oper)→(s:St)→(ns:Ns)→I3 w o r s ns→Prop
 pt:(d:Option Nat)→(x:AV)→(r:List Oper)→I2 d x r→St→Ns→Prop
 run_eq:∀ r (s:St) ns,run r s ns=xrun P cf ops K r s ns
 stp_eq:∀ (x:R (AV × Ef)) o r s ns,stp o r s ns x=xst P cf ops K x o r s ns
 gd_eq:∀ (v:Option (Nat × AV)) w o r s ns,gd w o r s ns v=xgd P cf ops K v w o r s ns
 pt_eq:∀ d x (e:Ef) r s ns,pt d x r e s ns=(dOk cf.n d∧xrun P cf ops K r (s.go d x e) ns)
theorem xr:Nonempty (XEng P cf ops K) :=
 ⟨⟨xrun P cf ops K,fun o r s ns x=>xst P cf ops K x o r s ns,fun w o r s ns v=>xgd P cf ops K v w o r s ns,fun d x r e s ns=>dOk cf.n d∧xrun P cf ops K r (s.go d x e) ns,fun _ _ _=>rfl,fun _ _ _ _ _=>rfl,fun _ _ _ _ _ _=>rfl,fun _ _ _ _ _ _=>rfl⟩⟩
end
section
variable {P:Program} {cf:Cf} {ops:Array Oper} {K:St→Ns→Prop} (E:XEng P cf ops K) (s:St) (o:Oper) (r:List Oper) (ns:Ns)
theorem HG:E.run [] s ns=K s ns:=by rw [E.run_eq];rfl
theorem IW (d:Option Nat) (op:Op) (ty:Nat) (p:String) (e:Array Edge) :
 E.run ({ dst:=d,op:=op,type:=ty,pos:=p,after:=e,guard:=none }::r) s ns=E.stp { dst:=d,op:=op,type:=ty,pos:=p,after:=e,guard:=none } r s ns (opE P.ti op d s):=by rw [E.run_eq,E.stp_eq];rfl
theorem EL (d:Option Nat) (op:Op) (ty:Nat) (p:String) (e:Array Edge) (j:Nat) (want:Bool) :
 E.run ({ dst:=d,op:=op,type:=ty,pos:=p,after:=e,guard:=some (j,want) }::r) s ns=E.gd want { dst:=d,op:=op,type:=ty,pos:=p,after:=e,guard:=some (j,want) } r s ns (e7 ops j s):=by rw [E.run_eq,E.gd_eq];rfl
theorem AP (x:AV) (e:Ef):E.stp o r s ns (.ok (x,e))=E.pt o.dst x r e s (ns++[fpN (rdO s o.op,e)]):=by rw [E.stp_eq,E.pt_eq];rfl
theorem vq (p:Prop) (x:R (AV × Ef)):E.stp o r s ns (.need p x)=(p∧E.stp o r s ns x):=by rw [E.stp_eq,E.stp_eq];rfl
theorem zw (t:Nat) (x:AV) (h:t<cf.n):E.pt (some t) x r ef0 s ns=E.run r (s.put t x) ns:=by rw [E.pt_eq,E.run_eq];simp [dOk,h,St.go,q0,St.putd]
theorem uc (x:AV) (p:Name) (q:Option Ob):E.pt none x r ⟨[(p,q)],[]⟩ s ns=E.run r (s.set p q) ns:=by rw [E.pt_eq,E.run_eq];simp [dOk,St.go,qZ,St.putd]
theorem sJ (t:Nat) (x:AV) (u:Nat) (ob:Ob) (h:t<cf.n):E.pt (some t) x r ⟨[([u],some ob)],[u]⟩ s ns=E.run r ((s.add u ob).put t x) ns:=by rw [E.pt_eq,E.run_eq];simp [dOk,h,St.go,nk,St.putd]
theorem um (t:Nat) (x:AV) (p:Name) (u:Nat) (ob:Ob) (h:t<cf.n):E.pt (some t) x r ⟨[(p,none),([u],some ob)],[u]⟩ s ns=E.run r (((s.set p none).add u ob).put t x) ns:=by rw [E.pt_eq,E.run_eq];simp [dOk,h,St.go,xT,St.putd]
theorem qF (t:Nat):E.gd true o r s ns (some (t,.d (.bool true)))=E.stp o r (s.put t (.d (.bool true))) ns (opE P.ti o.op o.dst (s.put t (.d (.bool true)))):=by rw [E.gd_eq,E.stp_eq];simp [xgd]
theorem rh (t:Nat):E.gd false o r s ns (some (t,.d (.bool false)))=E.stp o r (s.put t (.d (.bool false))) ns (opE P.ti o.op o.dst (s.put t (.d (.bool false)))):=by rw [E.gd_eq,E.stp_eq];simp [xgd]
theorem q8 (t:Nat):E.gd false o r s ns (some (t,.d (.bool true)))=E.pt o.dst (.tup []) r ef0 (s.put t (.d (.bool true))) (ns++[([],[],[])]):=by rw [E.gd_eq,E.pt_eq];simp [xgd]
theorem rW (t:Nat):E.gd true o r s ns (some (t,.d (.bool false)))=E.pt o.dst (.tup []) r ef0 (s.put t (.d (.bool false))) (ns++[([],[],[])]):=by rw [E.gd_eq,E.pt_eq];simp [xgd]
theorem DY (t:Nat) (want:Bool):E.gd want o r s ns (some (t,.tup []))=E.pt o.dst (.tup []) r ef0 s (ns++[([],[],[])]):=by rw [E.gd_eq,E.pt_eq];rfl
variable {s o r ns}
theorem IC (l:List Name):fpN (l,ef0)=(l,[],[]):=rfl
theorem HH (l:List Name) (wr:List (Name × Option Ob)) (nu:List Nat):fpN (l,⟨wr,nu⟩)=(l,wr.map (·.1),nu):=rfl
attribute [go_sem] HG IW EL AP vq zw uc sJ um qF rh q8 rW DY IC HH rdO rdA eZ jW eH cB List.cons_append List.nil_append
section
variable (tf:Nat→TI)
theorem AG (dd:Option Nat) (s:St) (x):opE tf (.move x) dd s=(opV tf (.move x) s).bind fun x=>.ok (x,ef0):=rfl
theorem vk (dd:Option Nat) (s:St) (x):opE tf (.assign x) dd s=(opV tf (.assign x) s).bind fun x=>.ok (x,ef0):=rfl
theorem zV (dd:Option Nat) (s:St) (a b c):opE tf (.pick a b c) dd s=(opV tf (.pick a b c) s).bind fun x=>.ok (x,ef0):=rfl
theorem x8 (dd:Option Nat) (s:St) (a b):opE tf (.build a b) dd s=(opV tf (.build a b) s).bind fun x=>.ok (x,ef0):=rfl
theorem BD (dd:Option Nat) (s:St) (a b):opE tf (.load a b) dd s=(opV tf (.load a b) s).bind fun x=>.ok (x,ef0):=rfl
theorem pH (dd:Option Nat) (s:St) (a b c):opE tf (.fieldAddr a b c) dd s=(opV tf (.fieldAddr a b c) s).bind fun x=>.ok (x,ef0):=rfl
theorem zf (dd:Option Nat) (s:St) (a b c):opE tf (.field a b c) dd s=(opV tf (.field a b c) s).bind fun x=>.ok (x,ef0):=rfl
theorem pg (dd:Option Nat) (s:St) (a b c):opE tf (.indexAddr a b c) dd s=(opV tf (.indexAddr a b c) s).bind fun x=>.ok (x,ef0):=rfl
theorem yM (dd:Option Nat) (s:St) (a b c):opE tf (.index a b c) dd s=(opV tf (.index a b c) s).bind fun x=>.ok (x,ef0):=rfl
theorem y5 (dd:Option Nat) (s:St) (a b c d e):opE tf (.slice a b c d e) dd s=(opV tf (.slice a b c d e) s).bind fun x=>.ok (x,ef0):=rfl
theorem yV (dd:Option Nat) (s:St) (a b c d e):opE tf (.binOp a b c d e) dd s=(opV tf (.binOp a b c d e) s).bind fun x=>.ok (x,ef0):=rfl
theorem AK (dd:Option Nat) (s:St) (a b c):opE tf (.unOp a b c) dd s=(opV tf (.unOp a b c) s).bind fun x=>.ok (x,ef0):=rfl
theorem sN (dd:Option Nat) (s:St) (a b c):opE tf (.convert a b c) dd s=(opV tf (.convert a b c) s).bind fun x=>.ok (x,ef0):=rfl
theorem tK (dd:Option Nat) (s:St) (a b):opE tf (.extract a b) dd s=(opV tf (.extract a b) s).bind fun x=>.ok (x,ef0):=rfl
theorem re (dd:Option Nat) (s:St) (a b c):opE tf (.makeFunc a b c) dd s=(opV tf (.makeFunc a b c) s).bind fun x=>.ok (x,ef0):=rfl
theorem uY (dd:Option Nat) (s:St) (x a t):opE tf (.call { callee:=.value x,args:=a,argTypes:=t }) dd s=.no:=rfl
theorem vp (dd:Option Nat) (s:St) (f) (x t):opE tf (.call { callee:=.builtin f,args:=#[x],argTypes:=#[t] }) dd s=(opV tf (.call { callee:=.builtin f,args:=#[x],argTypes:=#[t] }) s).bind fun x=>.ok (x,ef0):=by
 refine fo ?_
 cases f<;>rfl
theorem ve (dd:Option Nat) (s:St) (x y t t'):opE tf (.call { callee:=.builtin .append,args:=#[x,y],argTypes:=#[t,t'] }) dd s=if t≠t' then .no else match (tf t).k with
 | .slice e=>if (tf e).zOk∧(tf e).isW (tf e).w then eH (tf e) dd s (ev s x) (ev s y) else .no
 | _=>.no:=rfl
theorem vd (dd:Option Nat) (s:St) (a b c d):opE tf (.lookup a b c d) dd s=.no:=rfl
theorem zm (dd:Option Nat) (s:St) (t x v):opE tf (.store t x v) dd s=(eZ (tf t) s (ev s x) (ev s v)).bind fun q=>.ok (.un,⟨[(q.1,some q.2)],[]⟩):=rfl
theorem zG (dd:Option Nat) (s:St) (e):opE tf (.alloc e) dd s=match (tf e).z with
 | some cs=>jW dd s [] (.boxT (ym tf e) (cs.map .d)) (.bx · 0)
 | none=>.no:=rfl
theorem od (dd:Option Nat) (s:St) (t l parts):opE tf (.buildSlice t l parts) dd s=match ot (tf t).k,iw 0 (parts.toList.map fun q=>(q.1,ev s q.2)) with
 | some e,some xs=>if xs.length=l∧(tf e).z.isSome∧(tf e).isW (tf e).w∧xs.all (nM (tf e).w)∧l*(tf e).sz≤16777216 then jW dd s [] (.arr (tf e).w xs) (.vw · 0 l) else .no
 | _,_=>.no:=rfl
attribute [go_sem] AG vk zV x8 BD pH zf pg yM y5 yV AK sN tK re uY vp ve zG od vd zm
end
theorem Iw {c:Bool} {t:Nat} {want:Bool} (h1:c=true→E.gd want o r (s.put t (.d (.bool true))) ns (some (t,.d (.bool true)))) (h2:c=false→E.gd want o r (s.put t (.d (.bool false))) ns (some (t,.d (.bool false)))):E.gd want o r s ns (some (t,.d (.bool c))):=by
 cases c
 ·have:=h2 rfl
  cases want
  ·rw [rh,ni] at this;rw [rh];exact this
  ·rw [rW,ni] at this;rw [rW];exact this
 ·have:=h1 rfl
  cases want
  ·rw [q8,ni] at this;rw [q8];exact this
  ·rw [qF,ni] at this;rw [qF];exact this
theorem om {p:Prop} [Decidable p] {t:Nat} {want:Bool} (h1:p→E.gd want o r (s.put t (.d (.bool true))) ns (some (t,.d (.bool true)))) (h2:¬ p→E.gd want o r (s.put t (.d (.bool false))) ns (some (t,.d (.bool false)))):E.gd want o r s ns (some (t,.d (.bool (decide p)))) :=
 Iw E (fun h=>h1 (of_decide_eq_true h)) (fun h=>h2 (of_decide_eq_false h))
theorem wQ (s:St) (d:Option Nat) (x:AV):s.go d x ef0=s.iK d x:=by rw [A7];cases d<;>rfl
theorem oN {d:Option Nat} {op:Op} {ty:TypeId} {pos:String} {af:Array Edge} {g:Option (Nat × Bool)} {x:AV} (rd:List Name) (hdst:∀ t∈d,t<cf.n)
  (hok:∀ s',(∀ p∈rd,s'.hp p=s.hp p)→(∀ y∈op.operands,ev s' y=ev s y)→AOk P cf { dst:=d,op:=op,type:=ty,pos:=pos,after:=af,guard:=g } s' [] (fun _ s2=>s2=s'.iK d x)) (hk:E.run r (s.iK d x) (ns++[(rd,[],[])])) :
  E.stp { dst:=d,op:=op,type:=ty,pos:=pos,after:=af,guard:=g } r s ns .no:=by
 rw [E.stp_eq]
 refine ⟨x,(rd,ef0),fun s' _ hh he B hB ds' β a w hds hs Q'=>?_,fun y hy=>(by cases hy),?_,?_⟩
 ·refine Oper.wpIn_mono ?_ (hok s' hh he B hB ds' β a w hds hs Q')
  rintro a' w' ⟨hd',s2,β',hrun,hs2⟩
  obtain ⟨_,s3,β3,rfl,hs3⟩:=hrun B hB ds' β' a' w' hd' hs2
  exact ⟨hd',β3,by rw [wQ];exact hs3⟩
 ·cases d with
  | none=>trivial
  | some t=>exact hdst t rfl
 ·rw [← E.run_eq,wQ];exact hk
theorem bK {dst:Option Nat} {fv:Operand} {args:Array Operand} {at':Array TypeId} {ty:TypeId} {pos:String} {af:Array Edge} {g:Option (Nat × Bool)}
  {f:FuncId} {caps:List AV} {ds:List D} {x:AV} (hc:HP P cf.G f ds (fun r=>r=x))
  (hev:ev s fv=.clo f caps) (hargs:args.toList.map (ev s)++caps=ds.map .d) (hdst:∀ t∈dst,t<cf.n) (hk:E.run r (s.iK dst x) (ns++[([],[],[])])) :
  E.stp { dst:=dst,op:=.call { callee:=.value fv,args:=args,argTypes:=at' },type:=ty,pos:=pos,after:=af,guard:=g } r s ns .no:=by
 refine oN E [] hdst (fun s' _ he=>?_) hk
 have hm:∀ y,y=fv∨y∈args→ev s' y=ev s y:=fun y hy=>he y (by
  simp only [Op.operands,Call.operands]
  rcases hy with rfl | hy<;>simp_all)
 exact kA (k:=[]) (Q:=fun _ s2=>s2=s'.iK dst x) hc ((hm fv (.inl rfl)).trans hev)
  (by rw [vN (s:=s) (s':=s') fun y hy=>hm y (.inr (by simpa using hy))];exact hargs) hdst (fun r hr=>by subst hr;rw [dW])
theorem ak {id:Nat} {l:List Oper} {s:St} {k:List It} {Q:Exit→St→Prop} (hm:P.follows .mixedOrders=true) (E0:Eng P cf Q) (h:∀ E:XEng P cf l.toArray (fun s' ns=>chk l.toArray ns=true∧E0.run k s'),E.run l s []) :
  eV E0 (.region id l.toArray true) s k:=by
 refine AE hm ?_
 have e:(fun s' ns=>chk l.toArray ns=true∧E0.run k s')=fun s' ns=>chk l.toArray ns=true∧run P cf k Q s':=by funext s' ns;rw [E0.run_eq]
 obtain ⟨E⟩:=xr P cf l.toArray (fun s' ns=>chk l.toArray ns=true∧E0.run k s')
 have:=h E
 rw [E.run_eq,e] at this
 exact this
end
section
variable {P:Program} {cf:Cf} {Q:Exit→St→Prop} {s:St} {k:List It} {c:Code}
theorem az (E:Eng P cf Q) {X:Type} (I:X→List (Nat × AV)) (O:X→List (Name × Ob)) (u:List Nat) (μ:X→Nat) (x0:X) (τ0:Name→Name) (h0:LeL cf.U τ0 s (I x0) (O x0) u)
  (hr:∀ x,∀ E':Eng P cf (lqE E (fun s'=>∃ y,μ y<μ x∧∃ τ,LeL cf.U τ s' (I y) (O y) u) k),E'.run [.code c] (mk (I x) (O x) u)):eV E (.loop c) s k:=by
 have:=oD (P:=P) (cf:=cf) (c:=c) (s:=s) (k:=k) (Q:=Q) (fun x=>mk (I x) (O x) u) μ (fun x s'=>∃ y,μ y<μ x∧∃ τ,LeL cf.U τ s' (I y) (O y) u) ⟨x0,τ0,h0.le⟩ (fun _ _ ⟨y,hy,τ,h⟩=>⟨y,hy,τ,h.le⟩) (fun x=>by rw [← vP E];exact veil (hr x))
 exact this
theorem AB (q:Name × Name) (l:List (Name × Name)) (p:Name):tau (q::l) p=if p=q.1 then q.2 else tau l p:=by
 unfold tau
 rw [lkA]
theorem FF (p:Name):tau [] p=p:=rfl
attribute [go_sem] AB FF forall_eq forall_eq_or_imp
end
end Go.Ab

namespace Go.Proofs.YtejpnabbmgpmaaaGreat
open Go.Ab
theorem ti2:Tryz.prog.ti 2={ k:=.int .i64,sz:=1,by':=8,z:=some [.int .i64 0] }:=by kernel_rfl
theorem ti3:Tryz.prog.ti 3={ k:=.int .i64,sz:=1,by':=8,z:=some [.int .i64 0] }:=by kernel_rfl
theorem ti4:Tryz.prog.ti 4={ k:=.bool,sz:=1,by':=1,z:=some [.bool false] }:=by kernel_rfl
theorem ti5:Tryz.prog.ti 5={ k:=.int .u8,sz:=1,by':=1,z:=some [.int .u8 0] }:=by kernel_rfl
theorem ti9:Tryz.prog.ti 9={ k:=.str,sz:=1,by':=16,z:=some [.str []] }:=by kernel_rfl
theorem I9:Tryz.prog.ti 21={ k:=.int .i32,sz:=1,by':=4,z:=some [.int .i32 0] }:=by kernel_rfl
theorem Jl:Tryz.prog.ti 24={ k:=.slice 84,sz:=1,by':=24,z:=some [.nils] }:=by kernel_rfl
theorem Jf:Tryz.prog.ti 26={ k:=.struct [(0,24)],sz:=1,by':=24,z:=some [.nils] }:=by kernel_rfl
theorem Jk:Tryz.prog.ti 27={ k:=.int .i64,sz:=1,by':=8,z:=some [.int .i64 0] }:=by kernel_rfl
theorem Jm:Tryz.prog.ti 36={ k:=.struct [(0,3),(1,3),(2,3),(3,3)],sz:=4,by':=32,z:=some [.int .i64 0,.int .i64 0,.int .i64 0,.int .i64 0] }:=by kernel_rfl
theorem I6:Tryz.prog.ti 82={ k:=.slice 177,sz:=1,by':=24,z:=some [.nils] }:=by kernel_rfl
theorem Jc:Tryz.prog.ti 84={ k:=.struct [(0,3),(1,3),(2,3),(3,3),(4,2),(5,9),(6,9),(7,82),(8,3)],sz:=9,by':=104,z:=some [.int .i64 0,.int .i64 0,.int .i64 0,.int .i64 0,.int .i64 0,.str [],.str [],.nils,.int .i64 0] }:=by kernel_rfl
theorem Ji:Tryz.prog.ti 85={ k:=.slice 111,sz:=1,by':=24,z:=some [.nils] }:=by kernel_rfl
theorem I1:Tryz.prog.ti 88={ k:=.ptr 92,sz:=1,by':=8,z:=some [.nilp] }:=by kernel_rfl
theorem F4:Tryz.prog.ti 89={ k:=.ptr 157,sz:=1,by':=8,z:=some [.nilp] }:=by kernel_rfl
theorem I5:Tryz.prog.ti 92={ k:=.struct [(0,89),(1,27),(2,3),(3,3)],sz:=4,by':=32,z:=some [.nilp,.int .i64 0,.int .i64 0,.int .i64 0] }:=by kernel_rfl
theorem CT:Tryz.prog.ti 95={ k:=.slice 3,sz:=1,by':=24,z:=some [.nils] }:=by kernel_rfl
theorem H9:Tryz.prog.ti 104={ k:=.ptr 106,sz:=1,by':=8,z:=some [.nilp] }:=by kernel_rfl
theorem IA:Tryz.prog.ti 106={ k:=.struct [(0,85),(1,3),(2,3)],sz:=3,by':=40,z:=some [.nils,.int .i64 0,.int .i64 0] }:=by kernel_rfl
theorem IP:Tryz.prog.ti 108={ k:=.struct [(0,104),(1,27),(2,3),(3,3)],sz:=4,by':=32,z:=some [.nilp,.int .i64 0,.int .i64 0,.int .i64 0] }:=by kernel_rfl
theorem Ik:Tryz.prog.ti 111={ k:=.struct [(0,3),(1,9),(2,2),(3,3)],sz:=4,by':=40,z:=some [.int .i64 0,.str [],.int .i64 0,.int .i64 0] }:=by kernel_rfl
theorem HC:Tryz.prog.ti 151={ k:=.slice 26,sz:=1,by':=24,z:=some [.nils] }:=by kernel_rfl
theorem HK:Tryz.prog.ti 155={ k:=.struct [(0,111),(4,3),(5,27)],sz:=6,by':=56,z:=some [.int .i64 0,.str [],.int .i64 0,.int .i64 0,.int .i64 0,.int .i64 0] }:=by kernel_rfl
theorem IL:Tryz.prog.ti 157={ k:=.struct [(0,85),(1,3)],sz:=2,by':=32,z:=some [.nils,.int .i64 0] }:=by kernel_rfl
theorem IG:Tryz.prog.ti 166={ k:=.slice 187,sz:=1,by':=24,z:=some [.nils] }:=by kernel_rfl
theorem H3:Tryz.prog.ti 169={ k:=.ptr 171,sz:=1,by':=8,z:=some [.nilp] }:=by kernel_rfl
theorem HE:Tryz.prog.ti 171={ k:=.struct [(0,26),(1,166),(2,95)],sz:=3,by':=72,z:=some [.nils,.nils,.nils] }:=by kernel_rfl
theorem ID:Tryz.prog.ti 173={ k:=.slice 212,sz:=1,by':=24,z:=some [.nils] }:=by kernel_rfl
theorem FP:Tryz.prog.ti 177={ k:=.struct [(0,9),(1,9),(2,3)],sz:=3,by':=40,z:=some [.str [],.str [],.int .i64 0] }:=by kernel_rfl
theorem HN:Tryz.prog.ti 187={ k:=.struct [(0,3),(1,3)],sz:=2,by':=16,z:=some [.int .i64 0,.int .i64 0] }:=by kernel_rfl
theorem Ix:Tryz.prog.ti 200={ k:=.struct [(0,9),(1,2)],sz:=2,by':=24,z:=some [.str [],.int .i64 0] }:=by kernel_rfl
theorem IN:Tryz.prog.ti 203={ k:=.struct [(0,3),(1,4)],sz:=2,by':=16,z:=some [.int .i64 0,.bool false] }:=by kernel_rfl
theorem HD:Tryz.prog.ti 206={ k:=.arr 3 3,sz:=3,by':=24,z:=some [.int .i64 0,.int .i64 0,.int .i64 0] }:=by kernel_rfl
theorem HM:Tryz.prog.ti 208={ k:=.slice 9,sz:=1,by':=24,z:=some [.nils] }:=by kernel_rfl
theorem HO:Tryz.prog.ti 212={ k:=.struct [(0,3),(1,3)],sz:=2,by':=16,z:=some [.int .i64 0,.int .i64 0] }:=by kernel_rfl
theorem HU:Tryz.prog.ti 237={ k:=.func,sz:=1,by':=8,z:=some [.nilf] }:=by kernel_rfl
theorem Bf:Tryz.prog.ti 239={ k:=.slice 278,sz:=1,by':=24,z:=some [.nils] }:=by kernel_rfl
theorem HY:Tryz.prog.ti 255={ k:=.slice 200,sz:=1,by':=24,z:=some [.nils] }:=by kernel_rfl
theorem Cz:Tryz.prog.ti 256={ k:=.map 9 4,sz:=1,by':=8,z:=some [.nilm] }:=by kernel_rfl
theorem IM:Tryz.prog.ti 260={ k:=.int .u64,sz:=1,by':=8,z:=some [.int .u64 0] }:=by kernel_rfl
theorem Bz:Tryz.prog.ti 261={ k:=.slice 5,sz:=1,by':=24,z:=some [.nils] }:=by kernel_rfl
theorem nF:Tryz.prog.ti 278={ k:=.struct [(0,9),(1,187)],sz:=3,by':=32,z:=some [.str [],.int .i64 0,.int .i64 0] }:=by kernel_rfl
theorem qq:Tryz.prog.ti 314={ k:=.ptr 316,sz:=1,by':=8,z:=some [.nilp] }:=by kernel_rfl
theorem Ir:Tryz.prog.ti 316={ k:=.struct [(0,314),(1,261)],sz:=2,by':=32,z:=some [.nilp,.nils] }:=by kernel_rfl
end Go.Proofs.YtejpnabbmgpmaaaGreat

namespace Go.Proofs.YtejpnabbmgpmaaaGreat
open Go.Ab
attribute [go_sem] ti2 ti3 ti4 ti5 ti9 I9 Jl Jf Jk Jm I6 Jc Ji I1 F4 I5 CT H9 IA IP Ik HC HK IL IG H3 HE ID FP HN Ix IN HD HM HO HU Bf HY Cz IM Bz nF qq Ir
attribute [go_sem] Tryz.ntmps5 Tryz.results5 Tryz.ntmps15 Tryz.results15 Tryz.ntmps17 Tryz.results17 Tryz.ntmps20 Tryz.results20 Tryz.ntmps21 Tryz.results21 Tryz.ntmps22 Tryz.results22 Tryz.ntmps23 Tryz.results23 Tryz.ntmps24 Tryz.results24 Tryz.ntmps25 Tryz.results25 Tryz.ntmps26 Tryz.results26 Tryz.ntmps27 Tryz.results27 Tryz.ntmps28 Tryz.results28 Tryz.ntmps30 Tryz.results30 Tryz.ntmps31 Tryz.results31 Tryz.ntmps41 Tryz.results41 Tryz.ntmps51 Tryz.results51 Tryz.ntmps52 Tryz.results52 Tryz.ntmps53 Tryz.results53 Tryz.ntmps54 Tryz.results54 Tryz.ntmps55 Tryz.results55 Tryz.ntmps56 Tryz.results56 Tryz.ntmps58 Tryz.results58 Tryz.ntmps59 Tryz.results59 Tryz.ntmps60 Tryz.results60 Tryz.ntmps61 Tryz.results61 Tryz.ntmps62 Tryz.results62 Tryz.ntmps63 Tryz.results63 Tryz.ntmps64 Tryz.results64 Tryz.ntmps65 Tryz.results65 Tryz.ntmps66 Tryz.results66 Tryz.ntmps67 Tryz.results67 Tryz.ntmps68 Tryz.results68 Tryz.ntmps69 Tryz.results69 Tryz.ntmps70 Tryz.results70 Tryz.ntmps71 Tryz.results71 Tryz.ntmps72 Tryz.results72 Tryz.ntmps73 Tryz.results73 Tryz.ntmps81 Tryz.results81 Tryz.ntmps86 Tryz.results86 Tryz.ntmps88 Tryz.results88 Tryz.ntmps89 Tryz.results89 Tryz.ntmps90 Tryz.results90 Tryz.ntmps91 Tryz.results91 Tryz.ntmps92 Tryz.results92 Tryz.ntmps93 Tryz.results93 Tryz.ntmps94 Tryz.results94 Tryz.ntmps95 Tryz.results95 Tryz.ntmps96 Tryz.results96 Tryz.ntmps97 Tryz.results97 Tryz.ntmps98 Tryz.results98 Tryz.ntmps99 Tryz.results99 Tryz.ntmps100 Tryz.results100 Tryz.ntmps101 Tryz.results101 Tryz.ntmps102 Tryz.results102 Tryz.ntmps104 Tryz.results104 Tryz.ntmps105 Tryz.results105 Tryz.ntmps106 Tryz.results106 Tryz.ntmps107 Tryz.results107 Tryz.ntmps108 Tryz.results108 Tryz.ntmps109 Tryz.results109 Tryz.ntmps110 Tryz.results110 Tryz.ntmps111 Tryz.results111 Tryz.ntmps112 Tryz.results112 Tryz.ntmps113 Tryz.results113 Tryz.ntmps114 Tryz.results114 Tryz.ntmps115 Tryz.results115 Tryz.ntmps116 Tryz.results116 Tryz.ntmps117 Tryz.results117 Tryz.ntmps118 Tryz.results118 Tryz.ntmps119 Tryz.results119 Tryz.ntmps120 Tryz.results120 Tryz.ntmps132 Tryz.results132 Tryz.ntmps133 Tryz.results133 Tryz.ntmps137 Tryz.results137 Tryz.ntmps138 Tryz.results138 Tryz.ntmps143 Tryz.results143 Tryz.ntmps144 Tryz.results144 Tryz.ntmps145 Tryz.results145 Tryz.ntmps146 Tryz.results146 Tryz.ntmps147 Tryz.results147 Tryz.ntmps148 Tryz.results148 Tryz.ntmps149 Tryz.results149 Tryz.ntmps150 Tryz.results150 Tryz.ntmps151 Tryz.results151 Tryz.ntmps154 Tryz.results154 Tryz.ntmps155 Tryz.results155 Tryz.ntmps156 Tryz.results156 Tryz.ntmps157 Tryz.results157 Tryz.ntmps158 Tryz.results158 Tryz.ntmps159 Tryz.results159 Tryz.ntmps160 Tryz.results160 Tryz.ntmps161 Tryz.results161 Tryz.ntmps162 Tryz.results162 Tryz.ntmps163 Tryz.results163 Tryz.ntmps164 Tryz.results164 Tryz.ntmps165 Tryz.results165 Tryz.ntmps166 Tryz.results166 Tryz.ntmps167 Tryz.results167 Tryz.ntmps168 Tryz.results168 Tryz.ntmps169 Tryz.results169 Tryz.ntmps170 Tryz.results170 Tryz.ntmps171 Tryz.results171 Tryz.ntmps172 Tryz.results172 Tryz.ntmps173 Tryz.results173 Tryz.ntmps174 Tryz.results174 Tryz.ntmps175 Tryz.results175 Tryz.ntmps176 Tryz.results176 Tryz.ntmps177 Tryz.results177 Tryz.ntmps178 Tryz.results178 Tryz.ntmps179 Tryz.results179 Tryz.ntmps202 Tryz.results202 Tryz.ntmps203 Tryz.results203 Tryz.ntmps204 Tryz.results204 Tryz.ntmps205 Tryz.results205 Tryz.ntmps211 Tryz.results211 Tryz.ntmps214 Tryz.results214 Tryz.ntmps215 Tryz.results215 Tryz.ntmps216 Tryz.results216 Tryz.ntmps217 Tryz.results217 Tryz.ntmps218 Tryz.results218 Tryz.ntmps219 Tryz.results219 Tryz.ntmps220 Tryz.results220 Tryz.ntmps221 Tryz.results221 Tryz.ntmps222 Tryz.results222 Tryz.ntmps223 Tryz.results223 Tryz.ntmps224 Tryz.results224 Tryz.ntmps225 Tryz.results225 Tryz.ntmps226 Tryz.results226 Tryz.ntmps227 Tryz.results227 Tryz.ntmps228 Tryz.results228 Tryz.ntmps229 Tryz.results229 Tryz.ntmps230 Tryz.results230 Tryz.ntmps231 Tryz.results231 Tryz.ntmps232 Tryz.results232 Tryz.ntmps233 Tryz.results233 Tryz.ntmps234 Tryz.results234 Tryz.ntmps235 Tryz.results235 Tryz.ntmps236 Tryz.results236 Tryz.ntmps237 Tryz.results237 Tryz.ntmps258 Tryz.results258 Tryz.ntmps265 Tryz.results265 Tryz.ntmps266 Tryz.results266 Tryz.ntmps267 Tryz.results267 Tryz.ntmps268 Tryz.results268 Tryz.ntmps269 Tryz.results269 Tryz.ntmps270 Tryz.results270 Tryz.ntmps271 Tryz.results271 Tryz.ntmps272 Tryz.results272 Tryz.ntmps273 Tryz.results273 Tryz.ntmps274 Tryz.results274 Tryz.ntmps296 Tryz.results296 Tryz.ntmps297 Tryz.results297 Tryz.ntmps298 Tryz.results298 Tryz.ntmps299 Tryz.results299 Tryz.ntmps300 Tryz.results300 Tryz.ntmps301 Tryz.results301 Tryz.ntmps302 Tryz.results302 Tryz.ntmps303 Tryz.results303 Tryz.ntmps304 Tryz.results304 Tryz.ntmps305 Tryz.results305 Tryz.ntmps306 Tryz.results306 Tryz.ntmps307 Tryz.results307 Tryz.ntmps308 Tryz.results308 Tryz.ntmps309 Tryz.results309 Tryz.ntmps327 Tryz.results327 Tryz.ntmps328 Tryz.results328 Tryz.ntmps329 Tryz.results329 Tryz.ntmps330 Tryz.results330 Tryz.ntmps339 Tryz.results339 Tryz.ntmps340 Tryz.results340 Tryz.ntmps341 Tryz.results341 Tryz.ntmps342 Tryz.results342 Tryz.ntmps343 Tryz.results343 Tryz.ntmps353 Tryz.results353 Tryz.ntmps354 Tryz.results354 Tryz.ntmps355 Tryz.results355 Tryz.ntmps356 Tryz.results356 Tryz.ntmps357 Tryz.results357 Tryz.ntmps371 Tryz.results371
attribute [go_sem] Nat.reduceEqDiff Nat.reduceLT Nat.reduceAdd Nat.reduceMul Nat.reduceLeDiff Nat.reduceSub Nat.reduceBEq Int.reduceEq Int.reduceLT Int.reduceLE Int.reduceToNat Int.reduceAdd Int.reduceSub Int.reduceNeg UInt8.reduceToNat
attribute [go_sem ↓] reduceIte
end Go.Proofs.YtejpnabbmgpmaaaGreat

namespace Go.Proofs.YtejpnabbmgpmaaaGreat
open Go.Ab
variable {t:TypeId} {fz:Nat × Nat}
def smZ (n:Int):Bool:=(decide (97≤n) && decide (n≤122)) || decide (n=95)
def grZ (n:Int):Bool:=decide (65≤n) && decide (n≤90)
def diZ (n:Int):Bool:=decide (48≤n) && decide (n≤57)
def sm (c:UInt8):Bool:=smZ c.toNat
def gr (c:UInt8):Bool:=grZ c.toNat
def mo (c:UInt8):Bool:=sm c || gr c || diZ c.toNat
def u8 (c:UInt8):D:=.int .u8 (c.toNat:Nat)
theorem qO {G} (c:UInt8):HP Tryz.prog G 226 [u8 c] (fun r=>r=.d (.bool (sm c))):=by
 refine al Tryz.func226 rfl (by decide +kernel) (by simp [Tryz.ntmps226]) (veil fun E=>?_)
 unfold u8
 simp only [go_sem]
 refine an E (fun h1=>?_) (fun h1=>?_)<;>simp only [go_sem]
 ·refine an E (fun h2=>?_) (fun h2=>?_)<;>simp only [go_sem]
  ·simp [sm,smZ,h1,h2]
  ·simp [sm,smZ,h1,h2]
 ·simp [sm,smZ,h1]
theorem qB {G} (c:UInt8):HP Tryz.prog G 228 [u8 c] (fun r=>r=.d (.bool (gr c))):=by
 refine al Tryz.func228 rfl (by decide +kernel) (by simp [Tryz.ntmps228]) (veil fun E=>?_)
 unfold u8
 simp only [go_sem]
 refine an E (fun h1=>?_) (fun h1=>?_)<;>simp only [go_sem]
 ·simp [gr,grZ,h1]
 ·simp [gr,grZ,h1]
theorem wF {G} (c:UInt8):HP Tryz.prog G 266 [u8 c] (fun r=>r=.d (.bool (mo c))):=by
 refine al Tryz.func266 rfl (by decide +kernel) (by simp [Tryz.ntmps266]) (veil fun E=>?_)
 unfold u8
 simp only [go_sem]
 refine ag E (qO c) rfl rfl (by simp) ?_
 rintro _ rfl
 simp only [go_sem]
 refine bU E (fun h1=>?_) (fun h1=>?_)<;>simp only [go_sem]
 ·simp [mo,h1]
 refine ag E (qB c) rfl rfl (by simp) ?_
 rintro _ rfl
 simp only [go_sem]
 refine bU E (fun h2=>?_) (fun h2=>?_)<;>simp only [go_sem]
 ·simp [mo,h2]
 refine an E (fun h3=>?_) (fun h3=>?_)<;>simp only [go_sem]
 ·simp [mo,h1,h2,diZ,h3]
 ·simp [mo,h1,h2,diZ,h3]
def wlen:List UInt8→Nat
 | []=>0
 | c::r=>if mo c then wlen r+1 else 0
def bH (l:List UInt8):Nat:=match l with
 | []=>0
 | c::r=>if sm c || gr c then wlen r+1 else 0
theorem jN {l:List UInt8} {i:Nat} (h:i<l.length):wlen (l.drop i)=if mo (l.getD i 0) then wlen (l.drop (i+1))+1 else 0:=by
 have e:l.getD i 0=l[i]:=by simp [h]
 rw [List.drop_eq_getElem_cons h,wlen,e]
theorem lB {l:List UInt8}:wlen (l.drop l.length)=0:=by rw [List.drop_length];rfl
theorem wI:∀ l:List UInt8,wlen l≤l.length
 | []=>Nat.le_refl _
 | c::r=>by
   unfold wlen
   have:=wI r
   split<;>simp<;>omega
theorem dC {l:List UInt8} (h:1≤l.length):bH l=if sm (l.getD 0 0) || gr (l.getD 0 0) then wlen (l.drop 1)+1 else 0:=by
 cases l with
 | nil=>simp at h
 | cons c r=>rfl
theorem rz {G} (l:List UInt8) (hl:l.length≤9223372036854775807):HP Tryz.prog G 215 [.str l] (fun r=>r=.d (i64 (bH l))):=by
 refine al Tryz.func215 rfl (by decide +kernel) (by simp [Tryz.ntmps215]) (veil fun E=>?_)
 simp only [go_sem]
 refine bU E (fun h0=>?_) (fun h0=>?_)<;>simp only [go_sem]
 ·have:l=[]:=by simpa using h0
  subst this;rfl
 have h0:1≤l.length:=by
  cases l with
  | nil=>simp at h0
  | cons c r=>simp
 refine ⟨by omega,?_⟩
 refine ag E (qO (l.getD 0 0)) rfl rfl (by simp) ?_
 rintro _ rfl
 simp only [go_sem]
 refine bU E (fun h1=>?_) (fun h1=>?_)<;>simp only [go_sem]
 ·have h1:sm (l.getD 0 0)=false:=by simpa using h1
  refine ⟨by omega,?_⟩
  refine ag E (qB (l.getD 0 0)) rfl rfl (by simp) ?_
  rintro _ rfl
  simp only [go_sem]
  refine aB E (fun h2=>?_) (fun h2=>?_)<;>simp only [go_sem]
  ·have h2:gr (l.getD 0 0)=false:=by simpa using h2
   rw [dC h0,h1,h2];rfl
  ·have h2:gr (l.getD 0 0)=true:=by simpa using h2
   have hsg:(sm (l.getD 0 0) || gr (l.getD 0 0))=true:=by rw [h2,Bool.or_true]
   refine cq E (X:={ i:Nat // i≤l.length∧i+wlen (l.drop i)=wlen (l.drop 1)+1 }) (fun x=>[(0,.d (.str l)),(3,.d (i64 x.1))]) (fun x=>l.length-x.1) rfl ⟨1,h0,by omega⟩ ?_ ?_
   ·simp only [go_sem]
    all_goals rfl
   rintro ⟨i,hi,hw⟩ E'
   simp only [go_sem]
   have hn:bH l=wlen (l.drop 1)+1:=by rw [dC h0,hsg,if_pos rfl]
   refine an E' (fun h3=>?_) (fun h3=>?_)<;>simp only [go_sem]
   ·have hi':i<l.length:=by omega
    have hwd:=jN hi'
    refine ⟨⟨by omega,by omega⟩,?_⟩
    refine ag E' (wF (l.getD i 0)) rfl rfl (by simp) ?_
    rintro _ rfl
    simp only [go_sem]
    refine aB E' (fun h4=>?_) (fun h4=>?_)<;>simp only [go_sem]
    ·rw [h4,if_pos rfl] at hwd
     refine ⟨⟨i+1,by omega,by omega⟩,by show l.length-(i+1)<_;omega,?_⟩
     rw [ai ⟨by omega,by omega⟩];rfl
    ·rw [h4,if_neg (by simp)] at hwd
     rw [hn]
     exact congrArg (fun n:Nat=>AV.d (i64 (n:Int))) (by omega)
   ·have hil:i=l.length:=by omega
    subst hil
    rw [lB] at hw
    rw [hn]
    exact congrArg (fun n:Nat=>AV.d (i64 (n:Int))) (by omega)
 ·have h1:sm (l.getD 0 0)=true:=by simpa using h1
  have hsg:(sm (l.getD 0 0) || gr (l.getD 0 0))=true:=by rw [h1,Bool.true_or]
  refine cq E (X:={ i:Nat // i≤l.length∧i+wlen (l.drop i)=wlen (l.drop 1)+1 }) (fun x=>[(0,.d (.str l)),(3,.d (i64 x.1))]) (fun x=>l.length-x.1) rfl ⟨1,h0,by omega⟩ ?_ ?_
  ·simp only [go_sem]
   all_goals rfl
  rintro ⟨i,hi,hw⟩ E'
  simp only [go_sem]
  have hn:bH l=wlen (l.drop 1)+1:=by rw [dC h0,hsg,if_pos rfl]
  refine an E' (fun h3=>?_) (fun h3=>?_)<;>simp only [go_sem]
  ·have hi':i<l.length:=by omega
   have hwd:=jN hi'
   refine ⟨⟨by omega,by omega⟩,?_⟩
   refine ag E' (wF (l.getD i 0)) rfl rfl (by simp) ?_
   rintro _ rfl
   simp only [go_sem]
   refine aB E' (fun h4=>?_) (fun h4=>?_)<;>simp only [go_sem]
   ·rw [h4,if_pos rfl] at hwd
    refine ⟨⟨i+1,by omega,by omega⟩,by show l.length-(i+1)<_;omega,?_⟩
    rw [ai ⟨by omega,by omega⟩];rfl
   ·rw [h4,if_neg (by simp)] at hwd
    rw [hn]
    exact congrArg (fun n:Nat=>AV.d (i64 (n:Int))) (by omega)
  ·have hil:i=l.length:=by omega
   subst hil
   rw [lB] at hw
   rw [hn]
   exact congrArg (fun n:Nat=>AV.d (i64 (n:Int))) (by omega)
end Go.Proofs.YtejpnabbmgpmaaaGreat

namespace Go.Proofs.YtejpnabbmgpmaaaGreat
open Go.Ab
variable {t:TypeId} {fz:Nat × Nat}
theorem mixed:Tryz.prog.follows .mixedOrders=true:=by kernel_rfl
def kwB:List (List UInt8):=[[102,117,110],[108,101,116],[114,101,99],[105,110],[105,102],[116,104,101,110],[101,108,115,101],[99,97,115,101],[111,102],[101,110,100],[116,114,117,101],[102,97,108,115,101],[99,104,101,99,107],[97,115,107],[116,111,112],[98,111,116],[105,110,116],[98,111,111,108],[115,116,114,105,110,103],[109,117]]
def strs (l:List (List UInt8)):D:=.sl none (l.map .str)
theorem ET {G}:HP Tryz.prog G 273 [] (fun r=>r=.d (strs kwB)):=by
 refine aw Tryz.func273 rfl (by decide +kernel) (by simp [Tryz.ntmps273]) (veil fun E=>?_)
 simp only [go_sem]
 refine ⟨[([1],none,kwB.map .str)],?_⟩
 simp only [go_sem]
 refine ⟨rfl,?_⟩
 rfl
theorem lj {l:List (List UInt8)} {i:Nat} (h:i<l.length):(l.map D.str).getD i .nilp=.str (l.getD i []):=by
 simp [h]
theorem uA {l:List (List UInt8)} {i:Nat} {s:List UInt8} (hi:i<l.length) (h:s ∉ l.take i) (h2:l.getD i []≠s):s ∉ l.take (i+1):=by
 rw [List.take_succ_eq_append_getElem hi]
 simp only [List.mem_append,List.mem_singleton,not_or]
 refine ⟨h,fun e=>h2 ?_⟩
 simp [hi,e]
theorem EZ {G} (l:List (List UInt8)) (s:List UInt8) (hl:l.length≤9223372036854775807):HP Tryz.prog G 307 [strs l,.str s] (fun r=>∃ n,r=.d (i64 n)∧(0≤n↔s∈l)):=by
 refine al Tryz.func307 rfl (by decide +kernel) (by simp [Tryz.ntmps307]) (veil fun E=>?_)
 unfold strs
 simp only [go_sem]
 refine cq E (X:={ i:Nat // i≤l.length∧s ∉ l.take i }) (fun x=>[(0,.d (.sl none (l.map .str))),(1,.d (.str s)),(7,.d (i64 l.length)),(8,.d (i64 x.1))]) (fun x=>l.length-x.1) rfl ⟨0,by simp,by simp⟩ ?_ ?_
 ·simp only [go_sem]
  all_goals rfl
 rintro ⟨i,hi,hm⟩ E'
 simp only [go_sem]
 refine ah E' (fun h6=>?_) (fun h6=>?_)<;>simp only [go_sem]
 ·have hi':i<l.length:=by omega
  refine ⟨⟨by omega,by omega⟩,?_⟩
  rw [lj hi']
  simp only [go_sem]
  refine aB E' (fun h7=>?_) (fun h7=>?_)<;>simp only [go_sem]
  ·have h7:s=l.getD i []:=by simpa using h7
   have:s∈l:=by
    rw [h7]
    simp [hi']
   exact ⟨_,rfl,fun _=>this,fun _=>by omega⟩
  ·have h7:l.getD i []≠s:=by
    intro e
    rw [e] at h7
    simp at h7
   refine ⟨⟨i+1,by omega,uA hi' hm h7⟩,by show l.length-(i+1)<_;omega,?_⟩
   rw [ai ⟨by omega,by omega⟩];rfl
 ·have hil:i=l.length:=by omega
  subst hil
  rw [List.take_length] at hm
  exact ⟨-1,rfl,fun h=>absurd h (by decide),fun h=>absurd h hm⟩
theorem Dh {G} (l:List (List UInt8)) (s:List UInt8) (hl:l.length≤9223372036854775807):HP Tryz.prog G 272 [strs l,.str s] (fun r=>r=.d (.bool (decide (s∈l)))):=by
 refine al Tryz.func272 rfl (by decide +kernel) (by simp [Tryz.ntmps272]) (veil fun E=>?_)
 simp only [go_sem]
 refine ag E (EZ l s hl) rfl rfl (by simp) ?_
 rintro _ ⟨n,rfl,hn⟩
 simp only [go_sem]
 have:decide (0≤n)=decide (s∈l):=by rw [Bool.eq_iff_iff];simpa using hn
 rw [this]
def Cg (s:List UInt8):Bool:=decide (s∈kwB)
theorem FV:kwB.length≤9223372036854775807:=by decide
theorem xj {G} (s:List UInt8):HP Tryz.prog G 227 [.str s] (fun r=>r=.d (.bool (Cg s))):=by
 refine al Tryz.func227 rfl (by decide +kernel) (by simp [Tryz.ntmps227]) (veil fun E=>?_)
 simp only [go_sem]
 refine ag E ET rfl rfl (by simp) ?_
 rintro _ rfl
 simp only [go_sem]
 refine ag E (Dh kwB s FV) rfl rfl (by simp) ?_
 rintro _ rfl
 simp only [go_sem]
 rfl
def cz (s:List UInt8):Bool:=!s.isEmpty && decide (s.length≤20) && decide (bH s=s.length)
def dQ (s:List UInt8):Bool:=cz s && sm (s.getD 0 0) && !Cg s
def kl (s:List UInt8):Bool:=cz s && gr (s.getD 0 0)
theorem DF (a b:Nat):decide (((a:Nat):Int)=((b:Nat):Int))=decide (a=b):=by rw [Bool.eq_iff_iff];simp;omega
end Go.Proofs.YtejpnabbmgpmaaaGreat

namespace Go.Proofs.YtejpnabbmgpmaaaGreat
open Go.Ab
variable {t:TypeId} {fz:Nat × Nat}
theorem v8 {G} (s:List UInt8) (hl:s.length≤9223372036854775807):HP Tryz.prog G 225 [.str s] (fun r=>r=.d (.bool (cz s))):=by
 refine al Tryz.func225 rfl (by decide +kernel) (by simp [Tryz.ntmps225]) (veil fun E=>?_)
 simp only [go_sem]
 refine bU E (fun h0=>?_) (fun h0=>?_)<;>simp only [go_sem]
 ·refine an E (fun h1=>?_) (fun h1=>?_)<;>simp only [go_sem]
  ·refine ag E (rz s hl) rfl rfl (by simp) ?_
   rintro _ rfl
   simp only [go_sem]
   have h0:s.isEmpty=false:=by simpa using h0
   simp only [cz,h0,DF]
   rw [decide_eq_true (p:=s.length≤20) (by omega)]
   rfl
  ·have:¬ s.length≤20:=by omega
   simp only [cz]
   rw [decide_eq_false this,Bool.and_false,Bool.false_and]
 ·have h0:s.isEmpty=true:=by simpa using h0
  simp only [cz,h0]
  rfl
theorem lC {s:List UInt8} (h:cz s=true):1≤s.length:=by
 cases s with
 | nil=>simp [cz] at h
 | cons c r=>simp
theorem rI {G} (s:List UInt8) (hl:s.length≤9223372036854775807):HP Tryz.prog G 157 [.str s] (fun r=>r=.d (.bool (dQ s))):=by
 refine al Tryz.func157 rfl (by decide +kernel) (by simp [Tryz.ntmps157]) (veil fun E=>?_)
 simp only [go_sem]
 refine ag E (v8 s hl) rfl rfl (by simp) ?_
 rintro _ rfl
 simp only [go_sem]
 refine bU E (fun h1=>?_) (fun h1=>?_)<;>simp only [go_sem]
 ·have:=lC h1
  refine ⟨by omega,?_⟩
  refine ag E (qO (s.getD 0 0)) rfl rfl (by simp) ?_
  rintro _ rfl
  simp only [go_sem]
  refine bU E (fun h2=>?_) (fun h2=>?_)<;>simp only [go_sem]
  ·refine ag E (xj s) rfl rfl (by simp) ?_
   rintro _ rfl
   simp only [go_sem]
   simp only [dQ,h1,h2,Bool.true_and]
  ·simp only [dQ,h1,h2,Bool.true_and,Bool.false_and]
 ·simp only [dQ,h1,Bool.false_and]
theorem wu {G} (s:List UInt8) (hl:s.length≤9223372036854775807):HP Tryz.prog G 158 [.str s] (fun r=>r=.d (.bool (kl s))):=by
 refine al Tryz.func158 rfl (by decide +kernel) (by simp [Tryz.ntmps158]) (veil fun E=>?_)
 simp only [go_sem]
 refine ag E (v8 s hl) rfl rfl (by simp) ?_
 rintro _ rfl
 simp only [go_sem]
 refine bU E (fun h1=>?_) (fun h1=>?_)<;>simp only [go_sem]
 ·have:=lC h1
  refine ⟨by omega,?_⟩
  refine ag E (qB (s.getD 0 0)) rfl rfl (by simp) ?_
  rintro _ rfl
  simp only [go_sem]
  simp only [kl,h1,Bool.true_and]
 ·simp only [kl,h1,Bool.false_and]
end Go.Proofs.YtejpnabbmgpmaaaGreat

namespace Go.Ab
def uh (f:Nat) (cs:List AV):AV :=
 match jV cs with
 | some ds=>.d (.clo f ds)
 | none=>.clo f cs
mutual
def AV.frB (p:Name) (d:D):AV→AV
 | .un=>.un
 | .d x=>.d x
 | .vw q o l=>.vw q o l
 | .bx q c=>if q=p∧c=0 then .d (.ptr d) else .bx q c
 | .el q i c=>.el q i c
 | .mp q=>.mp q
 | .it q=>.it q
 | .agg cs=>fZ (mh p d cs)
 | .tup cs=>.tup (mh p d cs)
 | .clo f cs=>uh f (mh p d cs)
def mh (p:Name) (d:D):List AV→List AV
 | []=>[]
 | x::r=>x.frB p d::mh p d r
end
theorem eN (p:Name) (d:D):∀ l:List AV,(mh p d l).length=l.length
 | []=>rfl
 | _::r=>by simp [mh,eN p d r]
theorem jj (p:Name) (d:D):∀ (l:List AV) (i:Nat),(mh p d l)[i]?=(l[i]?).map (AV.frB p d)
 | [],i=>by simp [mh]
 | x::r,0=>by simp [mh]
 | x::r,i+1=>by simp [mh,jj p d r i]
section
variable {H:Array Obj} {own own':Nat→Prop} {used:List Nat} {hp hp':Name→Option Ob} {β:Name→Option Blk}
theorem qo {f:Nat} {vs:Array Value} {cs:List AV} (hs:vs.size=cs.length) (h:∀ i x,cs[i]?=some x→VR H own used hp β (vs.getD i undef) x):VR H own used hp β (.func (.func f) #[] vs) (uh f cs):=by
 unfold uh
 split
 ·rename_i ds hd
  have e:=mf hd
  subst e
  exact .d _ _ (.clo f vs ds (by simpa using hs) fun i d hi=>(h i (.d d) (by simp [hi])).toD)
 ·exact .clo f vs cs hs h
theorem VR.frB {p:Name} {d:D} (hr:∀ v d,Rep H own v d→Rep H own' v d) (hst:∀ q,nm used q→Stays hp hp' β β q) (hp0:hp p=some (.box (d.cells.map .d))) (hsc:∀ x∈d.cells,x.scal=true) (ho:OR H own used hp β p (.box (d.cells.map .d)))
  (hno:∀ k,β p=some k→¬ own' k.b) {v:Value} {x:AV} (h:VR H own used hp β v x):VR H own' used hp' β v (x.frB p d):=by
 induction h with
 | un v=>exact .un v
 | d v x h=>exact .d v x (hr v x h)
 | vw v q off len hn h1 h=>exact VR.mono hr (fun _ h=>h) hst (.vw v q off len hn h1 h)
 | bx v q c hn h1 h =>
   unfold AV.frB
   split
   ·rename_i e
    obtain ⟨rfl,rfl⟩:=e
    obtain ⟨k,hk,hk0,rfl⟩:=h _ _ hp0
    obtain ⟨k',cc,e,hk',_,hc,_,hl,_,hrep⟩:=ho
    rw [hk] at hk'
    cases hk'
    refine .d _ _ (.ptr k.b 0 cc e (0,0) d hc (hno k hk) (by simp at hl;omega) hsc fun j x hj=>?_)
    have:=(hrep j (.d x) (by simp [hj])).toD
    rw [Nat.zero_add]
    exact hr _ _ this
   ·exact VR.mono hr (fun _ h=>h) hst (.bx v q c hn h1 h)
 | el v q i c hn h1 h=>exact VR.mono hr (fun _ h=>h) hst (.el v q i c hn h1 h)
 | mp v q hn h1 h=>exact VR.mono hr (fun _ h=>h) hst (.mp v q hn h1 h)
 | its v q hn h1 h h'=>exact VR.mono hr (fun _ h=>h) hst (.its v q hn h1 h h')
 | agg vs cs hs hc _ ih =>
   have:=fp (H:=H) (own:=own') (used:=used) (hp:=hp') (β:=β) (vs:=vs.toList) (cs:=mh p d cs) (by rw [eN];simpa using hs) (by simpa using hc) (fun i v x hv hx=>by
    rw [jj,Option.map_eq_some_iff] at hx
    obtain ⟨y,hy,rfl⟩:=hx
    have:=ih i y hy
    have e:vs.getD i undef=v:=by
     simp only [Array.getElem?_toList] at hv
     simp [Array.getD_eq_getD_getElem?,hv]
    rw [e] at this
    exact this)
   simpa [AV.frB] using this
 | tup vs cs hs _ ih =>
   refine .tup vs _ (by rw [eN];exact hs) (fun i x hi=>?_)
   rw [jj,Option.map_eq_some_iff] at hi
   obtain ⟨y,hy,rfl⟩:=hi
   exact ih i y hy
 | clo f vs cs hs _ ih =>
   refine qo (by rw [eN];exact hs) (fun i x hi=>?_)
   rw [jj,Option.map_eq_some_iff] at hi
   obtain ⟨y,hy,rfl⟩:=hi
   exact ih i y hy
end
def Ob.frB (p:Name) (d:D):Ob→Ob
 | .boxT ty cs=>.boxT ty (mh p d cs)
 | o=>o
theorem Ob.C3 (p:Name) (d:D) (o:Ob):o.like (o.frB p d):=by
 cases o<;>simp [Ob.frB,Ob.like]
def St.frB (s:St) (p:Name) (d:D):St:={ fr:=fun t=>(s.fr t).frB p d,hp:=fun q=>(aD s.hp p none q).map (Ob.frB p d),used:=s.used }
theorem Sim.frB {B:Base} {β:Name→Option Blk} {s:St} {tm:Array Value} {w:World} (h:Sim B β s tm w) {p:Name} {d:D} (hp:s.hp p=some (.box (d.cells.map .d))) (hsc:∀ x∈d.cells,x.scal=true):Sim B β (s.frB p d) tm w:=by
 have hsub:∀ q o',(s.frB p d).hp q=some o'→q≠p∧∃ o,s.hp q=some o∧o'=o.frB p d:=by
  intro q o' ho
  by_cases e:q=p
  ·subst e;simp [St.frB,aD] at ho
  ·simp only [St.frB,aD,if_neg e,Option.map_eq_some_iff] at ho
   obtain ⟨o,h1,h2⟩:=ho
   exact ⟨e,o,h1,h2.symm⟩
 have hne:∀ q,(s.frB p d).hp q≠none→s.hp q≠none∧q≠p:=by
  intro q hq
  cases ho:(s.frB p d).hp q with
  | none=>exact absurd ho hq
  | some o' =>
    obtain ⟨e,o,h1,_⟩:=hsub q o' ho
    exact ⟨by rw [h1];simp,e⟩
 have hr:∀ v d',Rep w.heap (s.own B.A β) v d'→Rep w.heap ((s.frB p d).own B.A β) v d':=fun v d' hd=>hd.mono (fun _ _ _=>rfl) (by
  rintro b _ (hA | ⟨q,k,hq,hk,e⟩)
  ·exact .inl hA
  ·exact .inr ⟨q,k,(hne q hq).1,hk,e⟩)
 have hst:∀ q,nm s.used q→Stays s.hp (s.frB p d).hp β β q:=fun q _ o' ho'=>by
  obtain ⟨_,o,h1,rfl⟩:=hsub q o' ho'
  exact ⟨o,h1,Ob.C3 p d o,rfl⟩
 have hno:∀ k,β p=some k→¬ (s.frB p d).own B.A β k.b:=by
  rintro k hk (hA | ⟨q,k',hq,hk',e⟩)
  ·exact (h.blocks p k (by rw [hp];simp) hk).2.1 hA
  ·exact (hne q hq).2 (h.inj q p k' k (hne q hq).1 (by rw [hp];simp) hk' hk e)
 have hvr:∀ {v:Value} {x:AV},VR w.heap (s.own B.A β) s.used s.hp β v x→VR w.heap ((s.frB p d).own B.A β) s.used (s.frB p d).hp β v (x.frB p d):=fun hv=>hv.frB hr hst hp hsc (h.objs p _ hp).2 hno
 refine { tms:=h.tms,io:=h.io,size:=h.size,frame:=h.frame,slots:=fun i=>hvr (h.slots i),objs:=fun q o' ho'=>?_,blocks:=fun q k hq hk=>h.blocks q k (hne q hq).1 hk,inj:=fun q q' k k' hq hq'=>h.inj q q' k k' (hne q hq).1 (hne q' hq').1,us:=h.us,stay:=h.stay }
 obtain ⟨_,o,h1,rfl⟩:=hsub q o' ho'
 obtain ⟨g1,g2⟩:=h.objs q o h1
 refine ⟨g1,?_⟩
 cases o with
 | boxT ty cs =>
   obtain ⟨k,c,e,a1,a2,a3,a4,a5,a6,a7⟩:=g2
   refine ⟨k,c,e,a1,a2,a3,a4,by rw [a5,eN],a6,fun j x hj=>?_⟩
   rw [jj,Option.map_eq_some_iff] at hj
   obtain ⟨y,hy,rfl⟩:=hj
   exact hvr (a7 j y hy)
 | _=>exact g2.mono hr (fun _ h=>h) hst rfl fun _ _=>rfl
section
variable {P:Program} {cf:Cf} {Q:Exit→St→Prop} {s:St} {k:List It}
theorem z8 (E:Eng P cf Q) {d:Option Nat} {op:Op} {ty:TypeId} {ps:String} {af:Array Edge} (p:Name) (x:D) (hp:s.hp p=some (.box (x.cells.map .d))) (hsc:(x.cells.all D.scal)=true) (h:E.stp { dst:=d,op:=op,type:=ty,pos:=ps,after:=af,guard:=none } (s.frB p x) k (opR P.ti cf.n op d (s.frB p x))) :
  E.stp { dst:=d,op:=op,type:=ty,pos:=ps,after:=af,guard:=none } s k .no:=by
 rw [aM]
 rw [E.stp_eq] at h
 have h1:=dF (o:={ dst:=d,op:=op,type:=ty,pos:=ps,after:=af,guard:=none }) rfl h
 intro B hB ds β a w' hds hs Q'
 exact h1 B hB ds β a w' hds (hs.frB hp (List.all_eq_true.1 hsc)) Q'
theorem xi (E:Eng P cf Q) {c:Code} (p:Name) (x:D) (hp:s.hp p=some (.box (x.cells.map .d))) (hsc:(x.cells.all D.scal)=true) (h:eV E c (s.frB p x) k):eV E c s k:=by
 intro B hB ds β a w' hds hs
 exact h B hB ds β a w' hds (hs.frB hp (List.all_eq_true.1 hsc))
theorem xy (p:Name) (d:D) (t:Nat):∀ l:List (Nat × AV),(lkA .un l t).frB p d=lkA .un (l.map fun q=>(q.1,q.2.frB p d)) t
 | []=>rfl
 | q::r=>by
   simp only [lkA,List.map_cons]
   split
   ·rfl
   ·exact xy p d t r
theorem tv (p:Name) (d:D) (q:Name):∀ l:List (Name × Ob),(lkA none (l.map fun x=>(x.1,some x.2)) q).map (Ob.frB p d)=lkA none ((l.map fun x=>(x.1,x.2.frB p d)).map fun x=>(x.1,some x.2)) q
 | []=>rfl
 | x::r=>by
   simp only [lkA,List.map_cons]
   split
   ·rfl
   ·exact tv p d q r
theorem AZ (fr:List (Nat × AV)) (hp:List (Name × Ob)) (u:List Nat) (p:Name) (d:D):(mk fr hp u).frB p d=mk (fr.map fun q=>(q.1,q.2.frB p d)) ((jX hp p).map fun q=>(q.1,q.2.frB p d)) u:=by
 unfold St.frB mk
 congr 1
 ·funext t
  exact xy p d t fr
 ·funext q
  rw [← tv,ir,ik]
  rfl
theorem qJ {α β:Type} (f:α→β) (l:List α):(l.map f).take l.length=l.map f:=List.take_of_length_le (by simp)
attribute [go_sem] AZ AV.frB mh Ob.frB uh D.cells qJ List.take_succ_cons List.take_zero List.take_nil
theorem sc (E:Eng P cf Q) {dst:Option Nat} {u:Nat} {args:Array Operand} {at':Array TypeId} {ty:TypeId} {pos:String} {af:Array Edge}
  {f:FuncId} {caps ds:List D} {Q0:AV→Prop} (hc:HP P cf.G f ds Q0)
  (hev:s.fr u=.d (.clo f caps)) (hargs:args.toList.map (ev (s.put u (.clo f (caps.map .d))))++caps.map .d=ds.map .d) (hdst:∀ t∈dst,t<cf.n) (hk:∀ r,Q0 r→E.run k ((s.put u (.clo f (caps.map .d))).iK dst r)) :
  E.stp { dst:=dst,op:=.call { callee:=.value (.tmp u),args:=args,argTypes:=at' },type:=ty,pos:=pos,after:=af,guard:=none } s k .no:=by
 rw [aM]
 have h1:AOk P cf { dst:=dst,op:=.call { callee:=.value (.tmp u),args:=args,argTypes:=at' },type:=ty,pos:=pos,after:=af,guard:=none } (s.put u (.clo f (caps.map .d))) k Q :=
  kA hc (show dJ _ _ _ _=_ by simp [dJ]) hargs hdst fun r hr=>by rw [← E.run_eq];exact hk r hr
 intro B hB ds' β a w' hds hs Q'
 refine h1 B hB ds' β a w' hds (hs.setv ?_) Q'
 have hv:=hs.slots u
 rw [hev] at hv
 have hv:=hv.toD
 generalize a.tmps.getD u undef=v at hv
 cases hv with
 | clo _ vs _ hsz hrep =>
   refine .clo f vs _ (by simpa using hsz) fun i x hi=>?_
   rw [List.getElem?_map,Option.map_eq_some_iff] at hi
   obtain ⟨y,hy,rfl⟩:=hi
   exact .d _ _ (hrep i y hy)
theorem jh {op:BinOp} {t:TypeId} {x y:Operand} {yt:TypeId} {a:Act} {w:World} {d:Option Nat} {ty:TypeId} {ps:String} {af:Array Edge} {v:Value} (hg:(eqGuard op t x y (a.eval x) (a.eval y)).run P w=.ok () w) (hb:(binOp op t (a.eval x) (a.eval y)).run P w=.ok v w) :
  (execOp a.eval { dst:=d,op:=.binOp op t x y yt,type:=ty,pos:=ps,after:=af,guard:=none }).run P w=.ok (.value v) w:=by
 simp only [execOp,Sem.run_bind,hg,Result.andThen_ok,hb]
 rfl
theorem iC {t e:TypeId} (w:World) (hu:P.underlying t=some (.slice e)) (d:Nat) (ad:Option Addr) (n cap:Nat):(Op.equalIn (d+1) t (.slice ad n cap) (.slice none 0 0)).run P w=.ok ad.isNone w:=by
 cases ad<;>simp [Op.equalIn,run_underlying hu]
theorem tF {t e:TypeId} (w:World) (hu:P.underlying t=some (.slice e)) (ad:Option Addr) (n cap:Nat):(binOp .eql t (.slice ad n cap) (.slice none 0 0)).run P w=.ok (.bool ad.isNone) w:=by
 have h:(binOp .eql t (.slice ad n cap) (.slice none 0 0)).run P w=((Op.equalIn (9999+1) t (.slice ad n cap) (.slice none 0 0)).run P w).andThen fun b w'=>.ok (.bool b) w':=by
  simp only [binOp]
  simp [Op.equal,Op.maxDepth]
 rw [h,iC w hu];rfl
theorem uC {t e:TypeId} (w:World) (hu:P.underlying t=some (.slice e)) (ad:Option Addr) (n cap:Nat):(binOp .neq t (.slice ad n cap) (.slice none 0 0)).run P w=.ok (.bool (!ad.isNone)) w:=by
 have h:(binOp .neq t (.slice ad n cap) (.slice none 0 0)).run P w=((Op.equalIn (9999+1) t (.slice ad n cap) (.slice none 0 0)).run P w).andThen fun b w'=>.ok (.bool (!b)) w':=by
  simp only [binOp]
  simp [Op.equal,Op.maxDepth]
 rw [h,iC w hu];rfl
theorem Bc (E:Eng P cf Q) {t e:TypeId} {x:Operand} {yt:TypeId} {dst:Nat} {ty:TypeId} {ps:String} {af:Array Edge} (neg:Bool) (hk:(P.ti t).k=.slice e) (hd:dst<cf.n) {w0:W} {xs:List D} (hx:ev s x=.d (.sl w0 xs))
  (h:∀ b:Bool,(b=true→xs=[])→E.run k (s.put dst (.d (.bool (if neg then !b else b))))) :
  E.stp { dst:=some dst,op:=.binOp (if neg then .neq else .eql) t x (.const (.slice none 0 0)) yt,type:=ty,pos:=ps,after:=af,guard:=none } s k .no:=by
 rw [aM]
 intro B hB ds β a w hds hs Q'
 have hv:=hs.ev x
 rw [hx] at hv
 have hv:=hv.toD
 have hu:=bW hk
 have hrun:∃ b:Bool,(b=true→xs=[])∧(execOp a.eval { dst:=some dst,op:=.binOp (if neg then .neq else .eql) t x (.const (.slice none 0 0)) yt,type:=ty,pos:=ps,after:=af,guard:=none }).run P w=.ok (.value (.bool (if neg then !b else b))) w:=by
  have key:∀ ad n cap,a.eval x=.slice ad n cap→(execOp a.eval { dst:=some dst,op:=.binOp (if neg then .neq else .eql) t x (.const (.slice none 0 0)) yt,type:=ty,pos:=ps,after:=af,guard:=none }).run P w=.ok (.value (.bool (if neg then !ad.isNone else ad.isNone))) w:=by
   intro ad n cap hv
   refine jh ?_ ?_
   ·rw [hv];cases neg<;>rfl
   ·rw [hv]
    show (binOp _ t (.slice ad n cap) (.slice none 0 0)).run P w=_
    cases neg
    ·exact tF w hu ad n cap
    ·exact uC w hu ad n cap
  generalize hval:a.eval x=v at hv
  cases hv with
  | sl0 ad cap w=>exact ⟨ad.isNone,fun _=>rfl,key _ _ _ hval⟩
  | sl b o cap c e fz w xs=>exact ⟨false,fun h=>(by cases h),key _ _ _ hval⟩
 obtain ⟨b,hb,hrun⟩:=hrun
 have h1:=h b hb
 rw [E.run_eq] at h1
 exact aK (by simp) hrun (.inl rfl) ⟨hds,_,β,aW h1,hs.put (by rw [hB.1];exact hd) (.d _ _ (.bool _))⟩
end
end Go.Ab
namespace Go.Ab
def eqP:D→D→Option Bool
 | .int i a,.int j b=>if i=j then some (decide (a=b)) else none
 | .bool a,.bool b=>some (a == b)
 | .str a,.str b=>some (decide (a=b))
 | _,_=>none
def kOk:TK→D→Bool
 | .int _,.int _ _=>true
 | .bool,.bool _=>true
 | .str,.str _=>true
 | _,_=>false
def eqS (tf:Nat→TI):List (Nat × Nat)→List D→List D→Option Bool
 | [],_,_=>some true
 | f::r,a0s,bs=>match a0s[f.1]?,bs[f.1]? with
   | some a,some b=>if kOk (tf f.2).k a && kOk (tf f.2).k b then (eqP a b).bind fun x=>(eqS tf r a0s bs).map fun y=>x && y else none
   | _,_=>none
end Go.Ab
open Go.Ab in
def Go.Program.fM (P:Program) (t:Nat):Bool:=match P.underlying t with
 | some (.struct fs)=>(fs.toList.all fun f=>f.name != "_") && !P.stoodInHeld t && !P.eqGuardType P.depth t
 | _=>false
namespace Go.Ab
section
variable {P:Program} {w:World} {H:Array Obj} {own:Nat→Prop}
theorem D4 {t:TypeId} {u v:Value} {a b:D} {r:Bool} (ha:Rep H own u a) (hb:Rep H own v b) (ka:kOk (P.ti t).k a=true) (he:eqP a b=some r) (d:Nat):(Op.equalIn (d+1) t u v).run P w=.ok r w:=by
 cases a<;>cases b<;>simp [eqP] at he<;>cases ha<;>cases hb
 ·rename_i i x j y
  obtain ⟨hij,rfl⟩:=he
  subst hij
  cases hk:(P.ti t).k<;>rw [hk] at ka<;>simp [kOk] at ka
  rw [run_equalIn_int w d t _ _ _ _ (qR hk)]
  rfl
 ·subst he
  cases hk:(P.ti t).k<;>rw [hk] at ka<;>simp [kOk] at ka
  exact run_equalIn_bool' w d t _ _ (kp (by rw [hk];rfl))
 ·subst he
  cases hk:(P.ti t).k<;>rw [hk] at ka<;>simp [kOk] at ka
  rw [run_equalIn_string w d t _ _ (gq hk)]
  congr 1
  rw [Bool.eq_iff_iff]
  simp
theorem Av {i:TI} {a:D} (h:kOk i.k a=true):i.k.bh=false∧i.k.agg=false:=by
 cases hk:i.k<;>cases a<;>simp_all [kOk,TK.bh,TK.agg]
theorem mL (d:Nat) {xs ys:Array Value} {a0s bs:List D} (hxs:∀ (i:Nat) a,a0s[i]?=some a→i<xs.size∧Rep H own (xs.getD i undef) a) (hys:∀ (i:Nat) a,bs[i]?=some a→i<ys.size∧Rep H own (ys.getD i undef) a) :
  ∀ (fs:List Field) (r:Bool),(fs.all fun f=>f.name != "_")=true→eqS P.ti (fs.map fun f=>(f.offset,f.type)) a0s bs=some r→(Op.eqFields (d+1) xs ys fs).run P w=.ok r w
 | [],r,_,h=>by
   simp [eqS] at h
   subst h
   rfl
 | f::fs,r,hn,h=>by
   simp only [List.all_cons,Bool.and_eq_true,bne_iff_ne,ne_eq] at hn
   simp only [List.map_cons,eqS] at h
   split at h
   ·rename_i a b ha hb
    split at h
    ·rename_i hk
     simp only [Bool.and_eq_true] at hk
     obtain ⟨x,hx,h⟩:=Option.bind_eq_some_iff.1 h
     obtain ⟨y,hy,rfl⟩:=Option.map_eq_some_iff.1 h
     obtain ⟨h1,h2⟩:=hxs _ _ ha
     obtain ⟨h3,h4⟩:=hys _ _ hb
     obtain ⟨g1,g2⟩:=Av hk.1
     have ih:=mL d hxs hys fs y hn.2 hy
     have e1:=fk (P:=P) (w:=w) g1 g2 xs f.offset _ (jC (z:=undef) h1)
     have e2:=fk (P:=P) (w:=w) g1 g2 ys f.offset _ (jC (z:=undef) h3)
     have e3:=D4 (P:=P) (w:=w) h2 h4 hk.1 hx d
     simp only [Op.eqFields,Sem.run_ite,hn.1,ne_eq,not_false_eq_true,if_true,Sem.run_bind,e1,e2,e3,Result.andThen_ok]
     cases x
     ·rfl
     ·simp only [Bool.not_true,Bool.false_eq_true,if_false,Bool.true_and]
      exact ih
    ·cases h
   ·cases h
theorem lr {t:TypeId} (h:P.fM t=true):∃ fl:Array Field,P.underlying t=some (.struct fl)∧P.fieldsOf t=fl∧(fl.toList.all fun f=>f.name != "_")=true∧P.stoodInHeld t=false∧P.eqGuardType P.depth t=false:=by
 unfold Program.fM at h
 split at h
 ·rename_i fl hf
  simp only [Bool.and_eq_true,Bool.not_eq_true'] at h
  exact ⟨fl,hf,by simp [Program.fieldsOf,hf],h.1.1,h.1.2,h.2⟩
 ·cases h
theorem jD {v:Value} {a0s:List D} (h:Rep H own v (.agg a0s)):∃ xs,v=.agg xs∧∀ (i:Nat) a,a0s[i]?=some a→i<xs.size∧Rep H own (xs.getD i undef) a:=by
 cases h with
 | agg xs _ hs _ hr=>exact ⟨xs,rfl,fun i a hi=>⟨by rw [hs];exact (List.getElem?_eq_some_iff.1 hi).1,hr i a hi⟩⟩
theorem nH {t:TypeId} {u v:Value} {a0s bs:List D} {r:Bool} {fs:List (Nat × Nat)} (hst:P.fM t=true) (hk:(P.ti t).k=.struct fs) (hu:Rep H own u (.agg a0s)) (hv:Rep H own v (.agg bs)) (h:eqS P.ti fs a0s bs=some r) (d:Nat) :
  (Op.equalIn (d+2) t u v).run P w=.ok r w:=by
 obtain ⟨fl,h1,h2,h3,h4,_⟩:=lr hst
 obtain ⟨fl',h1',rfl⟩:=gR hk
 rw [h1] at h1'
 cases h1'
 obtain ⟨xs,rfl,hx⟩:=jD hu
 obtain ⟨ys,rfl,hy⟩:=jD hv
 rw [run_equalIn_agg w (d+1) t xs ys (by rw [h2];exact h1) h4,h2]
 exact mL d hx hy _ r h3 h
end
section
variable {P:Program} {cf:Cf} {Q:Exit→St→Prop} {s:St} {k:List It}
theorem Dg {t:TypeId} {x y:Operand} {yt:TypeId} {dst:Nat} {ty:TypeId} {ps:String} {af:Array Edge} {g:Option (Nat × Bool)} (neg:Bool) {a0s bs:List D} {r:Bool} {fs:List (Nat × Nat)} (hst:P.fM t=true) (hk:(P.ti t).k=.struct fs) (hd:dst<cf.n)
  (hx:ev s x=.d (.agg a0s)) (hy:ev s y=.d (.agg bs)) (h:eqS P.ti fs a0s bs=some r) (hr:run P cf k Q (s.put dst (.d (.bool (if neg then !r else r))))) :
  AOk P cf { dst:=some dst,op:=.binOp (if neg then .neq else .eql) t x y yt,type:=ty,pos:=ps,after:=af,guard:=g } s k Q:=by
 intro B hB ds β a w hds hs Q'
 have hu:=hs.ev x
 rw [hx] at hu
 have hv:=hs.ev y
 rw [hy] at hv
 have he:=nH (w:=w) hst hk hu.toD hv.toD h 9998
 obtain ⟨xs,hxs,_⟩:=jD hu.toD
 obtain ⟨ys,hys,_⟩:=jD hv.toD
 obtain ⟨_,_,_,_,_,hgt⟩:=lr hst
 rw [hxs,hys] at he
 have hrun:(execOp a.eval { dst:=some dst,op:=.binOp (if neg then .neq else .eql) t x y yt,type:=ty,pos:=ps,after:=af,guard:=g }).run P w=.ok (.value (.bool (if neg then !r else r))) w:=by
  have h1:(eqGuard (if neg then BinOp.neq else BinOp.eql) t x y (a.eval x) (a.eval y)).run P w=.ok () w:=by
   rw [hxs,hys];exact run_eqGuard_agg w _ t x y xs ys hgt
  have h2:(binOp (if neg then BinOp.neq else BinOp.eql) t (a.eval x) (a.eval y)).run P w=.ok (.bool (if neg then !r else r)) w:=by
   rw [hxs,hys]
   have he':(Op.equalIn 10000 t (.agg xs) (.agg ys)).run P w=.ok r w:=he
   cases neg
   ·rw [if_neg (by simp),run_eql_struct w t xs ys,he'];rfl
   ·rw [if_pos rfl,run_neq_struct w t xs ys,he'];rfl
  simp only [execOp,Sem.run_bind,h1,Result.andThen_ok,h2]
  rfl
 exact aK (by simp) hrun (.inl rfl) ⟨hds,_,β,aW hr,hs.put (by rw [hB.1];exact hd) (.d _ _ (.bool _))⟩
end
end Go.Ab
namespace Go.Ab
section
variable {P:Program}
theorem aq {G:List (Nat × Obj)} {f:FuncId} {fn:Func} {c:Code} {args:List AV} {hp:List (Name × Ob)} {u:List Nat} {Q:AV→List (Name × Ob)→Prop} (hf:P.funcs[f]?=some fn) (hb:fn.body=some c)
  (hnm:(fn.name == "runtime.NumGoroutine")=false) (hn:args.length≤fn.ntmps) (h:run P ⟨fn.ntmps,none,G,u⟩ [.code c] (fq P fn.results.toList u Q) (mk (aG 0 args) hp u)):HCall P G f args hp u Q :=
 Bx hf hb (ew hf hb hnm) hn (fun _ _ h=>h) h
theorem GG (rs:List ResultVar) (u:List Nat) (Q:AV→List (Name × Ob)→Prop) (s:St):fq P rs u Q .ret s=RX (gE P s rs) fun l=>∃ r hp' u' τ,Q r hp'∧LeL u τ (oH s (dn l)) [(0,r)] hp' u':=rfl
theorem zD (rs:List ResultVar) (u:List Nat) (Q:AV→List (Name × Ob)→Prop) (s:St):fq P rs u Q .normal s=RX (gE P s rs) fun l=>∃ r hp' u' τ,Q r hp'∧LeL u τ (oH s (dn l)) [(0,r)] hp' u':=rfl
theorem D3 (fr hp u) (x:AV):oH (mk fr hp u) x=mk [(0,x)] hp u:=by
 unfold oH mk
 congr 1
attribute [go_sem] GG zD D3
def zQ:List (Name × Ob)→List (Name × Ob)→List (Name × Ob)
 | [],hp=>hp
 | q::r,hp=>lZ (zQ r hp) q.1 q.2
def Af:List Name→List (Name × Ob)→List (Name × Ob)
 | [],hp=>hp
 | p::r,hp=>jX (Af r hp) p
theorem sL (q:Name) (hp:List (Name × Ob)):∀ l:List (Name × Ob),lkA none ((zQ l hp).map fun x=>(x.1,some x.2)) q=lkA (lkA none (hp.map fun x=>(x.1,some x.2)) q) (l.map fun x=>(x.1,some x.2)) q
 | []=>rfl
 | x::r=>by
   rw [zQ,np,jT,sL q hp r,List.map_cons,dV]
theorem uH (q:Name) (hp:List (Name × Ob)):∀ l:List Name,lkA none ((Af l hp).map fun x=>(x.1,some x.2)) q=lkA (lkA none (hp.map fun x=>(x.1,some x.2)) q) (l.map fun x=>(x,(none:Option Ob))) q
 | []=>rfl
 | x::r=>by
   rw [Af,ir,ik,uH q hp r,List.map_cons,dV]
theorem G9 (fr hp u) (σ:Name→Name) (d:Nat) (chp hp':List (Name × Ob)) (r:AV):aft (mk fr hp u) σ d chp hp' r=mk (lZ fr d (r.ren (fc σ d chp))) (zQ (hp'.map fun x=>(fc σ d chp x.1,x.2.ren (fc σ d chp))) (Af (chp.map fun x=>σ x.1) hp)) (d::u):=by
 unfold aft mk
 congr 1
 ·funext j
  rw [jT];rfl
 ·funext q
  simp only
  rw [sL,uH]
  simp only [List.map_map]
  rfl
attribute [go_sem] G9 zQ Af fc fb iI Ob.like List.any_cons List.any_nil
end
section
variable {P:Program} {cf:Cf} {Q:Exit→St→Prop} {s:St} {k:List It}
theorem ab (E:Eng P cf Q) {d:Nat} {fv:Operand} {args:Array Operand} {at':Array TypeId} {ty:TypeId} {pos:String} {af:Array Edge}
  {f:FuncId} {caps:List AV} (cargs:List AV) (chp:List (Name × Ob)) (cu:List Nat) {Q0:AV→List (Name × Ob)→Prop} (hc:HCall P cf.G f cargs chp cu Q0)
  (hev:ev s fv=.clo f caps) (hargs:args.toList.map (ev s)++caps=cargs) (hd:d<cf.n∧d ∉ s.used) (hcu:eU cu cargs=true) (hpass:fb id cu s chp) (hinj:mj id chp)
  (hk:∀ r hp',Q0 r hp'→iI chp hp'∧E.run k (aft s id d chp hp' r)) :
  E.stp { dst:=some d,op:=.call { callee:=.value fv,args:=args,argTypes:=at' },type:=ty,pos:=pos,after:=af,guard:=none } s k .no:=by
 rw [aM]
 refine q7 d id cargs chp cu Q0 hev ?_ hcu hd.2 (fun t ht=>?_) hpass hinj hc fun r hp' hr=>?_
 ·rw [hargs]
  have:∀ l:List AV,e8 id l=l:=fun l=>by
   induction l with
   | nil=>rfl
   | cons x r ih=>rw [e8,ih,AV.ek id (fun _=>rfl)]
  exact (this _).symm
 ·obtain rfl:=Option.some.inj ht
  exact ⟨hd.1,rfl⟩
 ·obtain ⟨h1,h2⟩:=hk r hp' hr
  exact ⟨h1,by rw [← E.run_eq];exact h2⟩
section
variable {κ:Type} [DecidableEq κ] {ke:κ→D} {kv:κ→Value} {ops:Array Oper} {K:St→Ns→Prop} {r:List Oper} {ns:Ns}
end
end
end Go.Ab

namespace Go.Ab
def Wk (a b:D):Prop:=∀ (H:Array Obj) (own:Nat→Prop) (v:Value),Rep H own v a→Rep H own v b
theorem Wk.refl (a:D):Wk a a:=fun _ _ _ h=>h
theorem Wk.trans {a b c:D} (h:Wk a b) (g:Wk b c):Wk a c:=fun H own v x=>g H own v (h H own v x)
theorem Wk.nils (w:W):Wk .nils (.sl w []):=fun _ _ _ h=>by
 cases h
 exact .sl0 none 0 w
theorem Wk.agg {a0s bs:List D} (hl:a0s.length=bs.length) (hs:∀ b∈bs,b.scal=true) (h:∀ (i:Nat) a b,a0s[i]?=some a→bs[i]?=some b→Wk a b):Wk (.agg a0s) (.agg bs):=fun H own v x=>by
 cases x with
 | agg vs _ h1 _ h3 =>
   refine .agg vs bs (h1.trans hl) hs fun i b hb=>?_
   have:i<a0s.length:=by rw [hl];exact (List.getElem?_eq_some_iff.1 hb).1
   exact h i _ b (List.getElem?_eq_getElem this) hb H own _ (h3 i _ (List.getElem?_eq_getElem this))
theorem Wk.sl {w:W} {a0s bs:List D} (hl:a0s.length=bs.length) (hw:∀ b∈bs,okW w b) (h:∀ (i:Nat) a b,a0s[i]?=some a→bs[i]?=some b→a.cells.length=b.cells.length∧∀ (j:Nat) c d,a.cells[j]?=some c→b.cells[j]?=some d→Wk c d):Wk (.sl w a0s) (.sl w bs):=fun H own v x=>by
 cases x with
 | sl0 a cap _ =>
   have:bs=[]:=List.length_eq_zero_iff.1 hl.symm
   subst this
   exact .sl0 a cap w
 | sl b o cap c e fz _ _ hb hn hcap hz _ hr =>
   rw [hl]
   refine .sl b o cap c e fz w bs hb hn (by omega) (by rw [← hl];exact hz) hw fun i x j d hi hj=>?_
   have hlt:i<a0s.length:=by rw [hl];exact (List.getElem?_eq_some_iff.1 hi).1
   obtain ⟨g1,g2⟩:=h i _ x (List.getElem?_eq_getElem hlt) hi
   have hj2:j<(a0s[i]).cells.length:=by rw [g1];exact (List.getElem?_eq_some_iff.1 hj).1
   exact g2 j _ d (List.getElem?_eq_getElem hj2) hj H own _ (hr i _ j _ (List.getElem?_eq_getElem hlt) (List.getElem?_eq_getElem hj2))
def WkL:List D→List D→Prop
 | [],[]=>True
 | a::a0s,b::bs=>Wk a b∧WkL a0s bs
 | _,_=>False
theorem WkL.get:∀ {a0s bs:List D},WkL a0s bs→a0s.length=bs.length∧∀ (i:Nat) a b,a0s[i]?=some a→bs[i]?=some b→Wk a b
 | [],[],_=>⟨rfl,fun _ _ _ h=>by simp at h⟩
 | _::_,_::_,h=>by
   obtain ⟨g1,g2⟩:=WkL.get h.2
   refine ⟨by simp [g1],fun i a b ha hb=>?_⟩
   cases i with
   | zero=>simp at ha hb;subst ha;subst hb;exact h.1
   | succ i=>exact g2 i a b (by simpa using ha) (by simpa using hb)
 | [],_::_,h=>h.elim
 | _::_,[],h=>h.elim
theorem VR.wk {H:Array Obj} {own:Nat→Prop} {used:List Nat} {hp:Name→Option Ob} {β:Name→Option Blk} {v:Value} {a b:D} (h:Wk a b) (hv:VR H own used hp β v (.d a)):VR H own used hp β v (.d b) :=
 .d _ _ (h _ _ _ hv.toD)
section
variable {P:Program}
theorem Sim.wv {B:Base} {β:Name→Option Blk} {s s':St} {tm:Array Value} {w:World} (h:Sim B β s tm w) (h1:s'.hp=s.hp) (h2:s'.used=s.used) (h3:∀ t,s'.fr t=s.fr t∨∃ a b,s.fr t=.d a∧s'.fr t=.d b∧Wk a b):Sim B β s' tm w:=by
 obtain ⟨fr,hp,us⟩:=s
 obtain ⟨fr2,hp2,us2⟩:=s'
 simp only at h1 h2 h3
 subst h1;subst h2
 exact { tms:=h.tms,io:=h.io,size:=h.size,frame:=h.frame,slots:=fun t=>(by
  have:=h.slots t
  rcases h3 t with e | ⟨a,b,e1,e2,hw⟩
  ·show VR _ _ _ _ _ _ (fr2 t)
   rw [e];exact this
  ·show VR _ _ _ _ _ _ (fr2 t)
   rw [e2]
   have this:VR _ _ _ _ _ _ (fr t):=this
   rw [e1] at this
   exact this.wk hw),objs:=h.objs,blocks:=h.blocks,inj:=h.inj,us:=h.us,stay:=h.stay }
theorem HP.wk {G:List (Nat × Obj)} {f:FuncId} {a0s bs:List D} {Q:AV→Prop} (h:HP P G f bs Q) (hw:WkL a0s bs):HP P G f a0s Q:=by
 obtain ⟨g1,g2⟩:=hw.get
 refine ⟨h.1,fun B β vs w h1 h2 h3 h4 hs=>h.2 B β vs w (by rw [h1];simp [g1]) h2 h3 h4 (hs.wv rfl rfl fun t=>?_)⟩
 rw [eJ,eJ,bg,bg,if_pos (Nat.zero_le _),if_pos (Nat.zero_le _),Nat.sub_zero,List.getElem?_map,List.getElem?_map]
 by_cases ht:t<a0s.length
 ·have ht':t<bs.length:=by omega
  rw [List.getElem?_eq_getElem ht,List.getElem?_eq_getElem ht']
  exact .inr ⟨_,_,rfl,rfl,g2 t _ _ (List.getElem?_eq_getElem ht) (List.getElem?_eq_getElem ht')⟩
 ·rw [List.getElem?_eq_none (by omega),List.getElem?_eq_none (by omega)]
  exact .inl rfl
theorem HP.wkr {G:List (Nat × Obj)} {f:FuncId} {a0s:List D} {Q Q':AV→Prop} (h:HP P G f a0s Q) (hw:∀ r,Q r→∃ a b,r=.d a∧Wk a b∧Q' (.d b)):HP P G f a0s Q':=by
 refine ⟨h.1,fun B β vs w h1 h2 h3 h4 hs=>(h.2 B β vs w h1 h2 h3 h4 hs).mono ?_⟩
 rintro e w' ⟨v,r,hp',u',β',rfl,⟨hQ,hin,rfl⟩,hsim⟩
 obtain ⟨a,b,rfl,hwk,hq⟩:=hw r hQ
 refine ⟨v,.d b,[],u',β',rfl,⟨hq,rfl,rfl⟩,hsim.wv rfl rfl fun t=>?_⟩
 rw [eJ,eJ,dV,dV,xa]
 by_cases ht:t=0
 ·rw [if_pos ht,if_pos ht]
  exact .inr ⟨a,b,rfl,rfl,hwk⟩
 ·rw [if_neg ht,if_neg ht]
  exact .inl rfl
end
theorem Sim.rebox {B:Base} {β:Name→Option Blk} {s:St} {tm:Array Value} {w:World} (h:Sim B β s tm w) {p:Name} {ty:Option Nat} {cs cs':List AV} (hp:s.hp p=some (.boxT ty cs)) (hl:cs'.length=cs.length)
  (hv:∀ (v:Value) (j:Nat) x x',cs[j]?=some x→cs'[j]?=some x'→VR w.heap (s.own B.A β) s.used s.hp β v x→VR w.heap (s.own B.A β) s.used s.hp β v x'):Sim B β (s.set p (some (.boxT ty cs'))) tm w:=by
 have hhq:∀ q,q≠p→(s.set p (some (.boxT ty cs'))).hp q=s.hp q:=fun q h1=>by simp [St.set,aD,h1]
 have hhp:(s.set p (some (.boxT ty cs'))).hp p=some (.boxT ty cs'):=by simp [St.set,aD]
 have hnn:∀ q,(s.set p (some (.boxT ty cs'))).hp q≠none↔s.hp q≠none:=fun q=>by
  by_cases e:q=p
  ·subst e;rw [hhp,hp];simp
  ·rw [hhq q e]
 have hown:(s.set p (some (.boxT ty cs'))).own B.A β=s.own B.A β:=by
  funext b
  refine propext (or_congr_right ⟨?_,?_⟩)
  ·rintro ⟨q,l,hq,hl,rfl⟩;exact ⟨q,l,(hnn q).1 hq,hl,rfl⟩
  ·rintro ⟨q,l,hq,hl,rfl⟩;exact ⟨q,l,(hnn q).2 hq,hl,rfl⟩
 have hst:∀ q,nm s.used q→Stays s.hp (s.set p (some (.boxT ty cs'))).hp β β q:=by
  intro q _ o ho
  by_cases e:q=p
  ·subst e
   rw [hhp] at ho
   cases ho
   exact ⟨_,hp,by simp [Ob.like,hl],rfl⟩
  ·exact ⟨o,by rwa [hhq q e] at ho,Ob.cG _,rfl⟩
 refine { tms:=h.tms,io:=h.io,size:=h.size,frame:=h.frame,slots:=fun i=>?_,objs:=?_,blocks:=fun q l hq hl=>h.blocks q l ((hnn q).1 hq) hl,inj:=fun q q' l l' hq hq'=>h.inj q q' l l' ((hnn q).1 hq) ((hnn q').1 hq'),us:=h.us,stay:=h.stay }
 ·rw [hown];exact (h.slots i).mono (fun _ _ h=>h) (fun _ h=>h) hst
 ·intro q o ho
  rw [hown]
  by_cases e:q=p
  ·subst e
   rw [hhp] at ho
   cases ho
   obtain ⟨h1,k,c,e,g1,g2,g3,g4,g5,g6,g7⟩:=h.objs q _ hp
   refine ⟨h1,k,c,e,g1,g2,g3,g4,by rw [g5,hl],g6,fun j x' hx'=>?_⟩
   have hlt:j<cs.length:=by rw [← hl];exact (List.getElem?_eq_some_iff.1 hx').1
   exact (hv _ j _ x' (List.getElem?_eq_getElem hlt) hx' (g7 j _ (List.getElem?_eq_getElem hlt))).mono (fun _ _ h=>h) (fun _ h=>h) hst
  ·rw [hhq q e] at ho
   obtain ⟨h1,h2⟩:=h.objs q o ho
   exact ⟨h1,h2.mono (fun _ _ h=>h) (fun _ h=>h) hst rfl fun _ _=>rfl⟩
theorem kV {H:Array Obj} {own:Nat→Prop} {used:List Nat} {hp:Name→Option Ob} {β:Name→Option Blk} {v:Value} {p:Name} {w:W} (hu:nm used p) (ho:hp p=some (.arr w [])) (h:VR H own used hp β v (.d .nils)):VR H own used hp β v (.vw p 0 0):=by
 have:=h.toD
 cases this
 exact .vw _ _ _ _ hu rfl fun ty' w' xs hx=>by
  rw [ho] at hx
  cases hx
  exact ⟨Nat.le_refl _,none,0,rfl,.inl ⟨rfl,rfl⟩⟩
section
variable {P:Program} {cf:Cf} {Q:Exit→St→Prop} {s:St} {k:List It}
theorem vG (E:Eng P cf Q) {c:Code} (t n:Nat) (w:W) (ht:s.fr t=.d .nils) (hn:n ∉ s.used) (h:eV E c ((s.add n (.arr w [])).put t (.vw [n] 0 0)) k):eV E c s k:=by
 intro B hB ds β a w' hds hs
 have h1:=hs.gi hn none w
 have h2:=h1.slots t
 rw [show (s.add n (.arr w [])).fr t=.d .nils from ht] at h2
 exact h B hB ds _ a w' hds (h1.setv (kV (w:=w) ⟨n,[],rfl,List.mem_cons_self⟩ (by simp [St.add,aD]) h2))
theorem qD (E:Eng P cf Q) {c:Code} (p:Name) (j n:Nat) (w:W) (cs:List AV) (hp:s.hp p=some (.box cs)) (hj:cs[j]?=some (.d .nils)) (hn:n ∉ s.used) (h:eV E c ((s.add n (.arr w [])).set p (some (.box (cs.set j (.vw [n] 0 0))))) k):eV E c s k:=by
 intro B hB ds β a w' hds hs
 have h1:=hs.gi hn none w
 have hpn:p≠[n]:=iD (hs.objs p _ hp).1 hn
 refine h B hB ds _ a w' hds (h1.rebox (cs:=cs) (by simpa [St.add,aD,hpn] using hp) (by simp) fun v i x x' hx hx' hv=>?_)
 by_cases e:j=i
 ·subst e
  rw [hj] at hx
  cases hx
  rw [List.getElem?_set_self (List.getElem?_eq_some_iff.1 hj).1] at hx'
  cases hx'
  exact kV (w:=w) ⟨n,[],rfl,List.mem_cons_self⟩ (by simp [St.add,aD]) hv
 ·rw [List.getElem?_set_ne e,hx] at hx'
  cases hx'
  exact hv
attribute [go_sem] List.set_cons_zero List.set_cons_succ
end
end Go.Ab
namespace Go.Ab
def gv (c:Bool) (x:AV):AV:=if c=true then x else .tup []
def cb (c w:Bool):Bool:=if w=true then c else !c
theorem Je (c:Bool):cb c true=c:=rfl
theorem I4 (c:Bool):cb c false=!c:=rfl
theorem Hu (x:AV):gv true x=x:=rfl
theorem Ee (x:AV):gv false x=.tup []:=rfl
def pk (c:Bool) (x y:AV):AV:=if c=true then x else y
theorem Jo (x y:AV):pk true x y=x:=rfl
theorem I8 (x y:AV):pk false x y=y:=rfl
theorem HI (c b:Bool):pk c (.d (.bool true)) (gv (!c) (.d (.bool b)))=.d (.bool (c || b)):=by cases c<;>rfl
theorem G6 (c b:Bool):pk (!c) (.d (.bool true)) (gv c (.d (.bool b)))=.d (.bool (!c || b)):=by cases c<;>rfl
theorem G4 (c b:Bool):pk c (gv c (.d (.bool b))) (.d (.bool false))=.d (.bool (c && b)):=by cases c<;>rfl
attribute [go_sem] Hu Ee Je I4 Jo I8 HI G6 G4 Bool.not_not Option.bind_some
theorem Gc (p:Name) (w:W) (xs:List D) (c:Bool) (x:AV):(gv c x).frz p w xs=gv c (x.frz p w xs):=by cases c<;>rfl
attribute [go_sem] Gc
theorem IH {c want:Bool} (h:c=want):cb c want=true:=by subst h;cases c<;>rfl
theorem IB {c want:Bool} (h:¬ c=want):cb c want=false:=by cases c<;>cases want<;>first | rfl | exact absurd rfl h
section
variable {P:Program} {cf:Cf} {Q:Exit→St→Prop} {s:St} {k:List It}
theorem iE (E:Eng P cf Q) {t:Nat} {c want:Bool} {all:Array Oper} {r:List Oper} {d:Nat} {op:Op} {ty:TypeId} {ps:String} {af:Array Edge} {g:Option (Nat × Bool)} {x:AV} (hd:d<cf.n)
  (hx:c=want→E.run (.ops all r::k) ((s.put t (.d (.bool want))).put d x)→E.stp { dst:=some d,op:=op,type:=ty,pos:=ps,after:=af,guard:=none } (s.put t (.d (.bool want))) (.ops all r::k) (opR P.ti cf.n op (some d) (s.put t (.d (.bool want)))))
  (h:E.run (.ops all r::k) ((s.put t (.d (.bool c))).put d (gv (cb c want) x))):E.gd want all { dst:=some d,op:=op,type:=ty,pos:=ps,after:=af,guard:=g } r s k (some (t,.d (.bool c))):=by
 by_cases hc:c=want
 ·have h1:=hx hc
  rw [IH hc,Hu] at h
  subst hc
  have h2:=h1 h
  cases c
  ·rw [wV];exact h2
  ·rw [xQ];exact h2
 ·rw [IB hc,Ee] at h
  cases c<;>cases want<;>first
   | exact absurd rfl hc
   | (rw [xu,iu (h:=hd)];exact h)
   | (rw [w5,iu (h:=hd)];exact h)
theorem fI (E:Eng P cf Q) {t:Nat} {c e want:Bool} {all:Array Oper} {r:List Oper} {d:Nat} {op:Op} {ty:TypeId} {ps:String} {af:Array Edge} {g:Option (Nat × Bool)} {x:AV} (hd:d<cf.n) (hs:s.fr t=gv c (.d (.bool e)))
  (hx:c=true→e=want→E.run (.ops all r::k) ((s.put t (.d (.bool want))).put d x)→E.stp { dst:=some d,op:=op,type:=ty,pos:=ps,after:=af,guard:=none } (s.put t (.d (.bool want))) (.ops all r::k) (opR P.ti cf.n op (some d) (s.put t (.d (.bool want)))))
  (h:E.run (.ops all r::k) (s.put d (gv (c && cb e want) x))):E.gd want all { dst:=some d,op:=op,type:=ty,pos:=ps,after:=af,guard:=g } r s k (some (t,gv c (.d (.bool e)))):=by
 by_cases hc:c=true
 ·subst hc
  rw [Hu] at hs ⊢
  refine iE E hd (hx rfl) ?_
  rw [n8 hs]
  exact h
 ·have hc:c=false:=by simpa using hc
  subst hc
  rw [Ee]
  rw [Bool.false_and,Ee] at h
  rw [xY,iu (h:=hd)]
  exact h
theorem oT (E:Eng P cf Q) {x:R St} {o:Oper} {s2:St} (h:x.run (fun s'=>s'=s2) False) (hk:E.run k s2):E.stp o s k x:=by
 induction x with
 | ok a=>rw [nQ];obtain rfl:a=s2:=h;exact hk
 | need p r ih=>rw [oa];exact ⟨h.1,ih h.2⟩
 | no=>exact h.elim
theorem b6 (E:Eng P cf Q) {t:Nat} {c want:Bool} {all:Array Oper} {r:List Oper} {d:Nat} {op:Op} {ty:TypeId} {ps:String} {af:Array Edge} {g:Option (Nat × Bool)} {x:AV} (hd:d<cf.n)
  (hx:c=want→(opR P.ti cf.n op (some d) (s.put t (.d (.bool want)))).run (fun s'=>s'=(s.put t (.d (.bool want))).put d x) False)
  (h:E.run (.ops all r::k) ((s.put t (.d (.bool c))).put d (gv (cb c want) x))):E.gd want all { dst:=some d,op:=op,type:=ty,pos:=ps,after:=af,guard:=g } r s k (some (t,.d (.bool c))) :=
 iE E hd (fun hc hk=>oT E (hx hc) hk) h
theorem a8 (E:Eng P cf Q) {t:Nat} {c e want:Bool} {all:Array Oper} {r:List Oper} {d:Nat} {op:Op} {ty:TypeId} {ps:String} {af:Array Edge} {g:Option (Nat × Bool)} {x:AV} (hd:d<cf.n) (hs:s.fr t=gv c (.d (.bool e)))
  (hx:c=true→e=want→(opR P.ti cf.n op (some d) (s.put t (.d (.bool want)))).run (fun s'=>s'=(s.put t (.d (.bool want))).put d x) False)
  (h:E.run (.ops all r::k) (s.put d (gv (c && cb e want) x))):E.gd want all { dst:=some d,op:=op,type:=ty,pos:=ps,after:=af,guard:=g } r s k (some (t,gv c (.d (.bool e)))) :=
 fI E hd hs (fun h1 h2 hk=>oT E (hx h1 h2) hk) h
theorem bV (E:Eng P cf Q) {d:Nat} {n:Nat} {c:Bool} {x y:AV} {o:Oper} (hd:d<n) (h:E.run k (s.put d (pk c x y))):E.stp o s k ((kP (.d (.bool c)) x y).bind (bZ n (some d) s)):=by
 cases c<;>(simp only [kP,R.bind,bZ,hd,if_true,nQ];exact h)
theorem ba (E:Eng P cf Q) {t:Nat} {c want:Bool} {all:Array Oper} {r:List Oper} {d:Nat} {a b b':Operand} {ty:TypeId} {ps:String} {af:Array Edge} {g:Option (Nat × Bool)} {c2:Bool} {z:AV} (hd:d<cf.n)
  (hx:c=want→ev (s.put t (.d (.bool want))) a=.d (.bool c2)) (hz:c=want→pk c2 (ev (s.put t (.d (.bool want))) b) (ev (s.put t (.d (.bool want))) b')=z)
  (h:E.run (.ops all r::k) ((s.put t (.d (.bool c))).put d (gv (cb c want) z))):E.gd want all { dst:=some d,op:=.pick a b b',type:=ty,pos:=ps,after:=af,guard:=g } r s k (some (t,.d (.bool c))) :=
 iE E hd (fun hc hk=>by
  have e:opR P.ti cf.n (.pick a b b') (some d) (s.put t (.d (.bool want)))=(kP (.d (.bool c2)) (ev (s.put t (.d (.bool want))) b) (ev (s.put t (.d (.bool want))) b')).bind (bZ cf.n (some d) (s.put t (.d (.bool want)))):=by
   rw [← hx hc];rfl
  rw [e]
  refine bV E hd ?_
  rw [hz hc]
  exact hk) h
theorem aI (E:Eng P cf Q) {t:Nat} {c e want:Bool} {all:Array Oper} {r:List Oper} {d:Nat} {a b b':Operand} {ty:TypeId} {ps:String} {af:Array Edge} {g:Option (Nat × Bool)} {c2:Bool} {z:AV} (hd:d<cf.n) (hs:s.fr t=gv c (.d (.bool e)))
  (hx:c=true→e=want→ev (s.put t (.d (.bool want))) a=.d (.bool c2)) (hz:c=true→e=want→pk c2 (ev (s.put t (.d (.bool want))) b) (ev (s.put t (.d (.bool want))) b')=z)
  (h:E.run (.ops all r::k) (s.put d (gv (c && cb e want) z))):E.gd want all { dst:=some d,op:=.pick a b b',type:=ty,pos:=ps,after:=af,guard:=g } r s k (some (t,gv c (.d (.bool e)))) :=
 fI E hd hs (fun h1 h2 hk=>by
  have e':opR P.ti cf.n (.pick a b b') (some d) (s.put t (.d (.bool want)))=(kP (.d (.bool c2)) (ev (s.put t (.d (.bool want))) b) (ev (s.put t (.d (.bool want))) b')).bind (bZ cf.n (some d) (s.put t (.d (.bool want)))):=by
   rw [← hx h1 h2];rfl
  rw [e']
  refine bV E hd ?_
  rw [hz h1 h2]
  exact hk) h
theorem aC (E:Eng P cf Q) (h:∀ (Q':Exit→St→Prop) (_:Q'=Q) (E':Eng P cf Q'),E'.run k s):E.run k s:=h Q rfl E
theorem rT (E:Eng P cf Q) {t e:TypeId} {x:Operand} {yt:TypeId} {dst:Nat} {ty:TypeId} {ps:String} {af:Array Edge} {w0:W} {xs:List D} (hk:(P.ti t).k=.slice e) (hd:dst<cf.n) (hx:ev s x=.d (.sl w0 xs))
  (h:∀ b:Bool,(b=true→xs=[])→E.run k (s.put dst (.d (.bool b)))) :
  E.stp { dst:=some dst,op:=.binOp .eql t x (.const (.slice none 0 0)) yt,type:=ty,pos:=ps,after:=af,guard:=none } s k .no :=
 Bc E false hk hd hx h
end
end Go.Ab
namespace Go.Ab
section
variable {P:Program}
theorem HCall.thaw {G:List (Nat × Obj)} {f:FuncId} {args:List AV} {hp:List (Name × Ob)} {u:List Nat} {Q Q':AV→List (Name × Ob)→Prop} (h:HCall P G f args hp u Q) (n:Nat) (w:W) (hn:n ∉ u)
  (hQ:∀ r hp',Q r hp'→Q' r hp'∨(r=.d .nils∧hp'=[]∧Q' (.vw [n] 0 0) [([n],.arr w [])])):HCall P G f args hp u Q':=by
 refine ⟨h.1,fun B β vs W h1 h2 h3 h4 h5=>?_⟩
 refine (h.2 B β vs W h1 h2 h3 h4 h5).mono ?_
 rintro e w' ⟨v,r,hp',u',β',he,hq,hs⟩
 rcases hQ r hp' hq with hq' | ⟨rfl,rfl,hq'⟩
 ·exact ⟨v,r,hp',u',β',he,hq',hs⟩
 ·have hle:Le ({ B with n:=1 }:Base).U0 id (mk [(0,.d .nils)] [] u') (mk [(0,.d .nils)] [] u):=by
   refine LeL.le ?_
   refine ⟨⟨⟨rfl,rfl⟩,trivial⟩,trivial,trivial,?_,trivial⟩
   rw [show ({ B with n:=1 }:Base).U0=u from h3]
   simp
  obtain ⟨β2,hs2,_⟩:=hs.le hle
  have h6:=hs2.gi (t:=n) (by rw [aa];exact hn) none w
  have h7:=h6.slots 0
  rw [show ((mk [(0,AV.d .nils)] [] u).add n (.arr w [])).fr 0=.d .nils from rfl] at h7
  have h8:=h6.setv (kV (p:=[n]) (w:=w) ⟨n,[],rfl,List.mem_cons_self⟩ (by simp [St.add,aD]) h7)
  have e2:((mk [(0,AV.d .nils)] [] u).add n (.arr w [])).put 0 (.vw [n] 0 0)=mk [(0,.vw [n] 0 0)] [([n],.arr w [])] (n::u):=by
   rw [Ce,ij];rfl
  rw [e2] at h8
  exact ⟨v,_,_,_,_,he,hq',h8⟩
end
end Go.Ab

