/-
  The generic layer, part 35: regions that draw their order and store: operations with their footprints. (with the parts that follow it) (with the parts that follow it)
-/
import Derived.Test.YtejpnabbmgpmaaaGreatDoorVAC
import Derived.Test.YtejpnabbmgpmaaaGreatDoorVAA
import Derived.Laws.StructEq
set_option linter.all false
namespace Go.Ab
structure Ef where
 wr:List (Name × Option Ob):=[]
 nu:List Nat:=[]
def ef0:Ef:=⟨[],[]⟩
def wl:List (Name × Option Ob)→Name→Option (Option Ob)
 | [],_=>none
 | q::r,p=>match wl r p with
   | some v=>some v
   | none=>if p=q.1 then some q.2 else none
def St.eff (s:St) (e:Ef):St:={ fr:=s.fr,hp:=fun p=>(wl e.wr p).getD (s.hp p),used:=e.nu++s.used }
def St.go (s:St) (d:Option Nat) (x:AV) (e:Ef):St:=(s.eff e).putd d x
theorem jD {s s':St} (h1:∀ p,s.hp p=s'.hp p) (h2:s.used=s'.used) (h3:∀ t,s.fr t=s'.fr t):s=s':=BT (funext h1) h2 h3
theorem AG (s:St):s.eff ⟨[],[]⟩=s:=jD (fun _=>rfl) rfl fun _=>rfl
theorem qn (s:St):s.eff ef0=s:=AG s
theorem qY (s:St) (p:Name) (v:Option Ob):s.eff ⟨[(p,v)],[]⟩=s.set p v:=jD (fun q=>by
 show (wl [(p,v)] q).getD (s.hp q)=au s.hp p v q
 simp only [wl,au]
 split<;>rfl) rfl fun _=>rfl
theorem lA (s:St) (t:Nat) (o:Ob):s.eff ⟨[([t],some o)],[t]⟩=s.add t o:=jD (fun q=>by
 show (wl [([t],some o)] q).getD (s.hp q)=au s.hp [t] (some o) q
 simp only [wl,au]
 split<;>rfl) rfl fun _=>rfl
theorem wj (s:St) (p:Name) (t:Nat) (o:Ob):s.eff ⟨[(p,none),([t],some o)],[t]⟩=(s.set p none).add t o:=jD (fun q=>by
 show (wl [(p,none),([t],some o)] q).getD (s.hp q)=au (au s.hp p none) [t] (some o) q
 simp only [wl,au]
 by_cases h:q=[t]
 ·simp [h]
 ·simp only [if_neg h]
  split<;>rfl) rfl fun _=>rfl
def rdA:AV→List Name
 | .vw p _ _=>[p]
 | .bx p _=>[p]
 | .el p _ _=>[p]
 | .mp p=>[p]
 | _=>[]
def rdO (s:St):Op→List Name
 | .load _ x=>rdA (ev s x)
 | .fieldAddr _ x _=>rdA (ev s x)
 | .indexAddr _ x _=>rdA (ev s x)
 | .slice _ x _ _ _=>rdA (ev s x)
 | .store _ x _=>rdA (ev s x)
 | .call c=>c.args.toList.flatMap fun x=>rdA (ev s x)
 | _=>[]
def dL (i:TI) (s:St) (x v:AV):R (Name × Ob) :=
 match x with
 | .bx p c =>
   match s.hp p with
   | some (.boxT ty cs)=>match cg v with
     | some vs=>if i.k.aV=false∧vs.length=i.sz∧c+i.sz≤cs.length then .ok (p,.boxT ty (splice cs c vs)) else .no
     | none=>.no
   | _=>.no
 | .el p j c =>
   match s.hp p,v with
   | some (.arrT none w xs),.d y=>match iC i w xs j c y with
     | some ys=>.ok (p,.arr w ys)
     | none=>.no
   | _,_=>.no
 | _=>.no
theorem yL (i:TI) (s:St) (x v:AV):gJ i s x v=(dL i s x v).bind fun q=>.ok (s.set q.1 (some q.2)):=by
 cases x with
 | bx p c =>
   simp only [gJ,dL]
   cases s.hp p with
   | none=>rfl
   | some o =>
     cases o with
     | boxT ty cs =>
       simp only
       cases cg v with
       | none=>rfl
       | some vs=>simp only;split<;>rfl
     | _=>rfl
 | el p j c =>
   simp only [gJ,dL]
   cases s.hp p with
   | none=>rfl
   | some o =>
     cases o with
     | arrT ty w xs =>
       rcases ty with _ | ty
       rotate_left
       ·cases v<;>rfl
       cases v with
       | d y =>
         simp only
         cases iC i w xs j c y with
         | none=>rfl
         | some ys=>rfl
       | _=>rfl
     | _=>rfl
 | _=>rfl
def iD (d:Option Nat) (s:St) (wr:List (Name × Option Ob)) (ob:Ob) (x:Name→AV):R (AV × Ef) :=
 match d with
 | some t=>if t ∉ s.used then .ok (x [t],⟨wr++[([t],some ob)],[t]⟩) else .no
 | none=>.no
def dt (e:TI) (d:Option Nat) (s:St) (x y:AV):R (AV × Ef) :=
 match bD e.w s.hp y,x with
 | some ys,.d .nils=>.need (ys.length*e.by1≤140737488355328) (iD d s [] (.arr e.w ys) (.vw · 0 ys.length))
 | some ys,.vw p o l =>
   match s.hp p with
   | some (.arrT none w xs)=>if w=e.w then .need ((l+ys.length)*e.by1≤140737488355328) (iD d s [(p,none)] (.arr w ((xs.drop o).take l++ys)) (.vw · 0 (l+ys.length))) else .no
   | _=>.no
 | _,_=>.no
def opE (tf:Nat→TI) (o:Op) (d:Option Nat) (s:St):R (AV × Ef) :=
 match o with
 | .store t x v=>(dL (tf t) s (ev s x) (ev s v)).bind fun q=>.ok (.un,⟨[(q.1,some q.2)],[]⟩)
 | .alloc e=>match (tf e).z with
   | some cs=>iD d s [] (.boxT (yd tf e) (cs.map .d)) (.bx · 0)
   | none=>.no
 | .buildSlice t l parts =>
   match mz (tf t).k,fO 0 (parts.toList.map fun q=>(q.1,ev s q.2)) with
   | some e,some xs=>if xs.length=l∧(tf e).z.isSome∧(tf e).isW (tf e).w∧xs.all (nT (tf e).w)∧l*(tf e).sz≤16777216 then iD d s [] (.arr (tf e).w xs) (.vw · 0 l) else .no
   | _,_=>.no
 | .call c=>match c.callee,c.args.toList,c.argTypes.toList with
   | .builtin .append,[x,y],[t,t']=>if t≠t' then .no else match (tf t).k with
     | .slice e=>if (tf e).zOk∧(tf e).isW (tf e).w then dt (tf e) d s (ev s x) (ev s y) else .no
     | _=>.no
   | _,_,_=>(opV tf (.call c) s).bind fun x=>.ok (x,ef0)
 | o=>(opV tf o s).bind fun x=>.ok (x,ef0)
theorem Co (i:TI) (hp hp':Name→Option Ob) (x:AV) (h:∀ p∈rdA x,hp' p=hp p):iM i hp' x=iM i hp x:=by
 cases x with
 | bx p c=>simp only [iM,h p (by simp [rdA])]
 | el p j c=>simp only [iM,h p (by simp [rdA])]
 | d y=>cases y<;>rfl
 | _=>rfl
theorem oz (i:TI) (tf:Nat→TI) (hp hp':Name→Option Ob) (x:AV) (f:Nat) (h:∀ p∈rdA x,hp' p=hp p):bW i tf hp' x f=bW i tf hp x f:=by
 unfold bW
 cases i.k with
 | struct fs =>
   simp only
   cases fs[f]? with
   | none=>rfl
   | some q =>
     simp only
     split
     ·rfl
     ·cases x with
      | bx p c=>simp only [h p (by simp [rdA])]
      | el p j c=>simp only [h p (by simp [rdA])]
      | d y =>
        cases y with
        | ptr z=>cases z<;>rfl
        | _=>rfl
      | _=>rfl
 | _=>rfl
theorem om (i:TI) (tf:Nat→TI) (hp hp':Name→Option Ob) (x j:AV) (h:∀ p∈rdA x,hp' p=hp p):bQ i tf hp' x j=bQ i tf hp x j:=by
 unfold bQ
 cases i.k with
 | slice e =>
   cases x with
   | vw p o l =>
     cases j with
     | d y =>
       cases y with
       | int k n=>simp only [h p (by simp [rdA])]
       | _=>rfl
     | _=>rfl
   | d y =>
     cases y<;>first
      | rfl
      | (cases j<;>first
       | rfl
       | (rename_i z;cases z<;>rfl))
   | _=>rfl
 | arr l e =>
   cases x with
   | el p i c =>
     cases j with
     | d y =>
       cases y with
       | int k n=>simp only [h p (by simp [rdA])]
       | _=>rfl
     | _=>rfl
   | _=>rfl
 | _=>rfl
theorem xT (i:TI) (tf:Nat→TI) (hp hp':Name→Option Ob) (x:AV) (lo hi:Option AV) (h:∀ p∈rdA x,hp' p=hp p):gU i tf hp' x lo hi=gU i tf hp x lo hi:=by
 unfold gU
 cases i.k with
 | slice e =>
   cases x with
   | vw p o l=>simp only [h p (by simp [rdA])]
   | d y=>cases y<;>rfl
   | _=>rfl
 | str =>
   cases x with
   | d y=>cases y<;>rfl
   | _=>rfl
 | arr l e =>
   cases x with
   | el p i c=>simp only [h p (by simp [rdA])]
   | _=>rfl
 | _=>rfl
theorem DL (i:TI) (hp hp':Name→Option Ob) (x:AV) (h:∀ p∈rdA x,hp' p=hp p):sx i hp' x=sx i hp x:=by
 unfold sx
 cases i.k with
 | slice e =>
   cases x with
   | vw p o l=>simp only [h p (by simp [rdA])]
   | d y=>cases y<;>rfl
   | _=>rfl
 | map a b =>
   cases x with
   | mp p=>simp only [h p (by simp [rdA])]
   | _=>rfl
 | str =>
   cases x with
   | d y=>cases y<;>rfl
   | _=>rfl
 | _=>rfl
theorem xR (i:TI) (s s':St) (x v:AV) (h:∀ p∈rdA x,s'.hp p=s.hp p):dL i s' x v=dL i s x v:=by
 cases x with
 | vw p o l=>simp only [dL]
 | bx p c=>simp only [dL,h p (by simp [rdA])]
 | el p j c=>simp only [dL,h p (by simp [rdA])]
 | mp p=>simp only [dL]
 | _=>rfl
theorem w4 (tf:Nat→TI) (o:Op) (s s':St) (hh:∀ p∈rdO s o,s'.hp p=s.hp p) (h:∀ x∈o.operands,ev s' x=ev s x):opV tf o s'=opV tf o s:=by
 have e:opV tf o { s' with hp:=s.hp }=opV tf o s:=Ha tf o s { s' with hp:=s.hp } rfl fun x hx=>by
  have:=h x hx
  cases x<;>exact this
 have hev:∀ x,ev { s' with hp:=s.hp } x=ev s' x:=fun x=>by cases x<;>rfl
 have hev':ev { s' with hp:=s.hp }=ev s':=funext hev
 rw [← e]
 cases o with
 | load t x =>
   simp only [opV,hev]
   exact Co _ _ _ _ (by rw [h x (by simp [Op.operands])];exact hh)
 | fieldAddr t x f =>
   simp only [opV,hev]
   exact oz _ _ _ _ _ _ (by rw [h x (by simp [Op.operands])];exact hh)
 | indexAddr t x j =>
   simp only [opV,hev]
   exact om _ _ _ _ _ _ (by rw [h x (by simp [Op.operands])];exact hh)
 | slice t x lo hi mx =>
   cases mx with
   | some _=>rfl
   | none =>
     simp only [opV,hev']
     exact xT _ _ _ _ _ _ _ (by rw [h x (by simp [Op.operands])];exact hh)
 | call c =>
   obtain ⟨callee,args,ats⟩:=c
   cases callee with
   | value _=>rfl
   | invoke _ _=>rfl
   | builtin b =>
     obtain ⟨args⟩:=args
     obtain ⟨ats⟩:=ats
     simp only [opV,hev]
     split
     ·rename_i x t
      exact DL _ _ _ _ (by rw [h x (by simp [Op.operands,Call.operands])];exact fun p hp=>hh p (by simp [rdO,hp]))
     ·rfl
     ·rfl
     ·rfl
 | _=>simp only [opV,hev,hev']
def ylE:R (AV × Ef)→AV × Ef→Prop
 | .ok y,x=>y=x
 | .need p r,x=>p∧ylE r x
 | .no,_=>False
theorem lD {d:Option Nat} {s s':St} {wr:List (Name × Option Ob)} {ob:Ob} {x:Name→AV} {r:AV × Ef} (h:ylE (iD d s wr ob x) r) (hu:∀ y∈r.2.nu,y ∉ s'.used):ylE (iD d s' wr ob x) r:=by
 unfold iD at h ⊢
 cases d with
 | none=>exact h
 | some t =>
   simp only at h ⊢
   split at h
   ·have h:(x [t],(⟨wr++[([t],some ob)],[t]⟩:Ef))=r:=h
    subst h
    rw [if_pos (hu t (by simp))]
    exact rfl
   ·exact h.elim
theorem fR {d:Option Nat} {s:St} {wr:List (Name × Option Ob)} {ob:Ob} {x:Name→AV} {r:AV × Ef} (h:ylE (iD d s wr ob x) r):∀ y∈r.2.nu,y ∉ s.used:=by
 unfold iD at h
 cases d with
 | none=>exact h.elim
 | some t =>
   simp only at h
   split at h
   ·rename_i ht
    have h:(x [t],(⟨wr++[([t],some ob)],[t]⟩:Ef))=r:=h
    subst h
    simpa using ht
   ·exact h.elim
theorem nQ {n:Nat} {d:Option Nat} {s:St} {ob:Ob} {x:Name→AV} {r:AV × Ef} (hd:dOk n d) (h:ylE (iD d s [] ob x) r):(fP n d s ob x).run (fun s2=>s2=s.go d r.1 r.2) False:=by
 unfold iD at h
 cases d with
 | none=>exact h.elim
 | some t =>
   simp only at h
   split at h
   ·rename_i ht
    have h:(x [t],(⟨[]++[([t],some ob)],[t]⟩:Ef))=r:=h
    subst h
    have hd:t<n:=hd
    simp only [fP,hd,ht,not_false_eq_true,and_self,if_true,R.run]
    show _=(s.eff _).putd _ _
    rw [List.nil_append,lA]
    rfl
   ·exact h.elim
theorem yb {n:Nat} {d:Option Nat} {s:St} {p:Name} {ob:Ob} {x:Name→AV} {r:AV × Ef} (hd:dOk n d) (h:ylE (iD d s [(p,none)] ob x) r):(fP n d (s.set p none) ob x).run (fun s2=>s2=s.go d r.1 r.2) False:=by
 unfold iD at h
 cases d with
 | none=>exact h.elim
 | some t =>
   simp only at h
   split at h
   ·rename_i ht
    have h:(x [t],(⟨[(p,none)]++[([t],some ob)],[t]⟩:Ef))=r:=h
    subst h
    have hd:t<n:=hd
    have ht':t ∉ (s.set p none).used:=ht
    simp only [fP,hd,ht',not_false_eq_true,and_self,if_true,R.run]
    show _=(s.eff _).putd _ _
    rw [List.cons_append,List.nil_append,wj]
    rfl
   ·exact h.elim
theorem xB (w:W) (hp hp':Name→Option Ob) (x:AV) (h:∀ p∈rdA x,hp' p=hp p):bD w hp' x=bD w hp x:=by
 cases x with
 | vw p o l=>simp only [bD,h p (by simp [rdA])]
 | d y=>cases y<;>rfl
 | _=>rfl
theorem uE {e:TI} {d:Option Nat} {s s':St} {x y:AV} {r:AV × Ef} (hx:∀ p∈rdA x,s'.hp p=s.hp p) (hy:∀ p∈rdA y,s'.hp p=s.hp p) (h:ylE (dt e d s x y) r) (hu:∀ z∈r.2.nu,z ∉ s'.used):ylE (dt e d s' x y) r:=by
 unfold dt at h ⊢
 rw [xB e.w s.hp s'.hp y hy]
 cases hl:bD e.w s.hp y with
 | none=>rw [hl] at h;exact h.elim
 | some ys =>
   rw [hl] at h
   cases x with
   | vw p o l =>
     simp only at h ⊢
     rw [hx p (by simp [rdA])]
     cases hp:s.hp p with
     | none=>rw [hp] at h;exact h.elim
     | some ob =>
       rw [hp] at h
       cases ob with
       | arrT ty w xs =>
         rcases ty with _ | ty
         rotate_left
         ·exact h.elim
         simp only at h ⊢
         split at h
         ·rename_i hw
          rw [if_pos hw]
          exact ⟨h.1,lD h.2 hu⟩
         ·exact h.elim
       | _=>exact h.elim
   | d z =>
     cases z with
     | nils=>exact ⟨h.1,lD h.2 hu⟩
     | _=>exact h.elim
   | _=>exact h.elim
theorem oy {e:TI} {d:Option Nat} {s:St} {x y:AV} {r:AV × Ef} (h:ylE (dt e d s x y) r):∀ z∈r.2.nu,z ∉ s.used:=by
 unfold dt at h
 cases hl:bD e.w s.hp y with
 | none=>rw [hl] at h;exact h.elim
 | some ys =>
   rw [hl] at h
   cases x with
   | vw p o l =>
     simp only at h
     cases hp:s.hp p with
     | none=>rw [hp] at h;exact h.elim
     | some ob =>
       rw [hp] at h
       cases ob with
       | arrT ty w xs =>
         rcases ty with _ | ty
         rotate_left
         ·exact h.elim
         simp only at h
         split at h
         ·exact fR h.2
         ·exact h.elim
       | _=>exact h.elim
   | d z =>
     cases z with
     | nils=>exact fR h.2
     | _=>exact h.elim
   | _=>exact h.elim
theorem rV {n:Nat} {e:TI} {d:Option Nat} {s:St} {x y:AV} {r:AV × Ef} (hd:dOk n d) (h:ylE (dt e d s x y) r):(fY n e d s x y).run (fun s2=>s2=s.go d r.1 r.2) False:=by
 unfold dt at h
 unfold fY
 cases hl:bD e.w s.hp y with
 | none=>rw [hl] at h;exact h.elim
 | some ys =>
   rw [hl] at h
   cases x with
   | vw p o l =>
     simp only at h ⊢
     cases hp:s.hp p with
     | none=>rw [hp] at h;exact h.elim
     | some ob =>
       rw [hp] at h
       cases ob with
       | arrT ty w xs =>
         rcases ty with _ | ty
         rotate_left
         ·exact h.elim
         simp only at h ⊢
         split at h
         ·rename_i hw
          rw [if_pos hw]
          exact ⟨h.1,yb hd h.2⟩
         ·exact h.elim
       | _=>exact h.elim
   | d z =>
     cases z with
     | nils=>exact ⟨h.1,nQ hd h.2⟩
     | _=>exact h.elim
   | _=>exact h.elim
theorem se {α:Type} {x:AV × Ef} {g:α→AV × Ef} {f:α→R St} {k:St→Prop} {z:Prop} (hf:∀ a,g a=x→(f a).run k z):∀ {r:R α},ylE (r.bind fun a=>.ok (g a)) x→(r.bind f).run k z
 | .ok a,h=>hf a h
 | .need _ _,h=>⟨h.1,se hf h.2⟩
 | .no,h=>h.elim
theorem eT {α:Type} {x:AV × Ef} {g:α→AV × Ef} (hg:∀ a,(g a).2.nu=[]):∀ {r:R α},ylE (r.bind fun a=>.ok (g a)) x→x.2.nu=[]
 | .ok a,h=>by have h:g a=x:=h;subst h;exact hg a
 | .need p r,h=>eT hg h.2
 | .no,h=>h.elim
def Call.isApp (c:Call):Bool:=match c.callee,c.args.toList,c.argTypes.toList with
 | .builtin .append,[_,_],[_,_]=>true
 | _,_,_=>false
theorem dZ {tf:Nat→TI} {c:Call} {d:Option Nat} {s:St} (h:Call.isApp c=false):opE tf (.call c) d s=(opV tf (.call c) s).bind fun x=>.ok (x,ef0):=by
 obtain ⟨callee,args,ats⟩:=c
 obtain ⟨args⟩:=args
 obtain ⟨ats⟩:=ats
 unfold opE
 simp only
 split
 ·simp [Call.isApp] at h
 ·rfl
theorem pQ {c:Call} (h:Call.isApp c=true):∃ x y t t',c={ callee:=.builtin .append,args:=[x,y].toArray,argTypes:=[t,t'].toArray }:=by
 obtain ⟨callee,args,ats⟩:=c
 obtain ⟨args⟩:=args
 obtain ⟨ats⟩:=ats
 unfold Call.isApp at h
 simp only at h
 split at h
 ·exact ⟨_,_,_,_,rfl⟩
 ·cases h
theorem G8 {tf:Nat→TI} {o:Op} {d:Option Nat} {s s':St} {r:AV × Ef} (hh:∀ p∈rdO s o,s'.hp p=s.hp p) (h:∀ x∈o.operands,ev s' x=ev s x) (hy:ylE (opE tf o d s) r) (hu:∀ y∈r.2.nu,y ∉ s'.used):ylE (opE tf o d s') r:=by
 cases o with
 | store t x v =>
   simp only [opE] at hy ⊢
   rw [h x (by simp [Op.operands]),h v (by simp [Op.operands]),xR _ s s' _ _ hh]
   exact hy
 | alloc e =>
   simp only [opE] at hy ⊢
   split at hy
   ·exact lD hy hu
   ·exact hy.elim
 | buildSlice t l parts =>
   have:(parts.toList.map fun q=>(q.1,ev s' q.2))=parts.toList.map fun q=>(q.1,ev s q.2) :=
    List.map_congr_left fun q hq=>by rw [h q.2 (by simp only [Op.operands,List.mem_toArray,List.mem_map];exact ⟨q,hq,rfl⟩)]
   simp only [opE,this] at hy ⊢
   split at hy
   ·split at hy
    ·rename_i hc
     rw [if_pos hc]
     exact lD hy hu
    ·exact hy.elim
   ·exact hy.elim
 | call c =>
   cases hc:Call.isApp c with
   | false =>
     rw [dZ hc] at hy ⊢
     rw [w4 tf _ s s' hh h]
     exact hy
   | true =>
     obtain ⟨x,y,t,t',rfl⟩:=pQ hc
     have ex:ev s' x=ev s x:=h x (by simp [Op.operands,Call.operands])
     have ey:ev s' y=ev s y:=h y (by simp [Op.operands,Call.operands])
     simp only [opE] at hy ⊢
     split at hy
     ·exact hy.elim
     ·rename_i ht
      rw [if_neg ht]
      split at hy
      ·split at hy
       ·rename_i e hk hz
        rw [if_pos hz,ex,ey]
        exact uE (fun p hp=>hh p (by simp [rdO,hp])) (fun p hp=>hh p (by simp [rdO,hp])) hy hu
       ·exact hy.elim
      ·exact hy.elim
 | _ =>
   simp only [opE] at hy ⊢
   rw [w4 tf _ s s' hh h]
   exact hy
theorem yE {tf:Nat→TI} {o:Op} {d:Option Nat} {s:St} {r:AV × Ef} (hy:ylE (opE tf o d s) r):∀ y∈r.2.nu,y ∉ s.used:=by
 have none:r.2.nu=[]→∀ y∈r.2.nu,y ∉ s.used:=fun h y hy=>by rw [h] at hy;cases hy
 cases o with
 | store t x v=>exact none (eT (g:=fun q:Name × Ob=>(AV.un,(⟨[(q.1,some q.2)],[]⟩:Ef))) (fun _=>rfl) hy)
 | alloc e =>
   simp only [opE] at hy
   split at hy
   ·exact fR hy
   ·exact hy.elim
 | buildSlice t l parts =>
   simp only [opE] at hy
   split at hy
   ·split at hy
    ·exact fR hy
    ·exact hy.elim
   ·exact hy.elim
 | call c =>
   cases hc:Call.isApp c with
   | false =>
     rw [dZ hc] at hy
     exact none (eT (g:=fun a:AV=>(a,ef0)) (fun _=>rfl) hy)
   | true =>
     obtain ⟨x,y,t,t',rfl⟩:=pQ hc
     simp only [opE] at hy
     split at hy
     ·exact hy.elim
     ·split at hy
      ·split at hy
       ·exact oy hy
       ·exact hy.elim
      ·exact hy.elim
 | _=>exact none (eT (g:=fun a:AV=>(a,ef0)) (fun _=>rfl) hy)
def qvE (r:R (AV × Ef)) (f:AV × Ef→Prop) (z:Prop):Prop :=
 match r with
 | .ok x=>f x
 | .need p r=>p∧qvE r f z
 | .no=>z
theorem zQ {f:AV × Ef→Prop} {z:Prop}:∀ {r:R (AV × Ef)},qvE r f z→(∃ x,ylE r x∧f x)∨z
 | .ok x,h=>.inl ⟨x,rfl,h⟩
 | .no,h=>.inr h
 | .need p r,h=>by
   rcases zQ (r:=r) h.2 with ⟨x,h1,h2⟩ | hz
   ·exact .inl ⟨x,⟨h.1,h1⟩,h2⟩
   ·exact .inr hz
theorem Cv {tf:Nat→TI} {n:Nat} {o:Op} {d:Option Nat} {s:St} {x:AV × Ef} (h:ylE ((opV tf o s).bind fun x=>.ok (x,ef0)) x):opR tf n o d s=(opV tf o s).bind (bx n d s):=by
 rcases EG tf n o d s with e | e
 ·rw [e] at h;exact h.elim
 ·exact e
theorem D4 {tf:Nat→TI} {n:Nat} {o:Op} {d:Option Nat} {s:St} {x:AV × Ef} (hd:dOk n d) (h:ylE (opE tf o d s) x):(opR tf n o d s).run (fun s2=>s2=s.go d x.1 x.2) False:=by
 have hput:∀ (s1:St) (v:AV),(bx n d s1 v).run (fun s2=>s2=s1.putd d v) False:=fun s1 v=>by
  cases d with
  | none=>exact rfl
  | some t=>simp [bx,show t<n from hd,R.run,St.putd]
 have quiet:ylE ((opV tf o s).bind fun x=>.ok (x,ef0)) x→(opR tf n o d s).run (fun s2=>s2=s.go d x.1 x.2) False:=fun h=>by
  rw [Cv h]
  exact se (g:=fun a=>(a,ef0)) (fun a ha=>by
   subst ha
   show (bx n d s a).run (fun s2=>s2=(s.eff ef0).putd d a) False
   rw [qn]
   exact hput _ _) h
 cases o with
 | store t a b =>
   simp only [opR,yL]
   simp only [opE] at h
   have key:∀ r:R (Name × Ob),ylE (r.bind fun q=>.ok (.un,⟨[(q.1,some q.2)],[]⟩)) x→((r.bind fun q=>.ok (s.set q.1 (some q.2))).bind fun s'=>bx n d s' .un).run (fun s2=>s2=s.go d x.1 x.2) False:=by
    intro r
    induction r with
    | ok q =>
      intro h
      have h:(AV.un,(⟨[(q.1,some q.2)],[]⟩:Ef))=x:=h
      subst h
      show (bx n d (s.set q.1 (some q.2)) .un).run (fun s2=>s2=(s.eff ⟨[(q.1,some q.2)],[]⟩).putd d .un) False
      rw [qY]
      exact hput _ _
    | need p r ih=>exact fun h=>⟨h.1,ih h.2⟩
    | no=>exact fun h=>h.elim
   exact key _ h
 | alloc e =>
   simp only [opE] at h
   simp only [opR]
   split at h
   ·rename_i cs hz
    rw [hz]
    exact nQ hd h
   ·exact h.elim
 | buildSlice t l parts =>
   simp only [opE] at h
   simp only [opR]
   split at h
   ·rename_i e xs h1 h2
    rw [h1,h2]
    split at h
    ·rename_i hc
     simp only [if_pos hc]
     exact nQ hd h
    ·exact h.elim
   ·exact h.elim
 | call c =>
   cases hc:Call.isApp c with
   | false =>
     rw [dZ hc] at h
     exact quiet h
   | true =>
     obtain ⟨a,b,t,t',rfl⟩:=pQ hc
     simp only [opE] at h
     simp only [opR,jl,List.map_cons,List.map_nil]
     split at h
     ·exact h.elim
     ·rename_i ht
      rw [if_neg ht]
      split at h
      ·rename_i e hk
       rw [hk]
       split at h
       ·rename_i hz
        simp only [if_pos hz]
        exact rV hd h
       ·exact h.elim
      ·exact h.elim
 | _=>exact quiet h
section
variable (P:Program) (cf:Cf) (ops:Array Oper)
abbrev Fp:=List Name × Ef
abbrev Ns:=List (List Name × List Name × List Nat)
def QE (o:Oper) (s:St) (x:AV) (f:Fp):Prop:=∀ s',(∀ y∈f.2.nu,y ∉ s'.used)→(∀ p∈f.1,s'.hp p=s.hp p)→(∀ y∈o.op.operands,ev s' y=ev s y) →
 ∀ B,cf.fits B→∀ ds β a w,a.defers=ds→Sim B β s' a.tmps w→∀ Q',o.wpIn (Fw cf.ro) 0 P a w (fun a' w'=>a'.defers=ds∧∃ β',Sim B β' (s'.go o.dst x f.2) a'.tmps w') Q'
def fpN (f:Fp):List Name × List Name × List Nat:=(f.1,f.2.wr.map (·.1),f.2.nu)
def xrun (K:St→Ns→Prop):List Oper→St→Ns→Prop
 | [],s,ns=>K s ns
 | o::r,s,ns =>
   match o.guard with
   | none=>qvE (opE P.ti o.op o.dst s) (fun x=>dOk cf.n o.dst∧xrun K r (s.go o.dst x.1 x.2) (ns++[fpN (rdO s o.op,x.2)])) (∃ x f,QE P cf o s x f∧(∀ y∈f.2.nu,y ∉ s.used)∧dOk cf.n o.dst∧xrun K r (s.go o.dst x f.2) (ns++[fpN f]))
   | some (j,want) =>
     match dK ops j s with
     | some (t,.d (.bool b)) =>
       (b=want→qvE (opE P.ti o.op o.dst (s.put t (.d (.bool want)))) (fun x=>dOk cf.n o.dst∧xrun K r ((s.put t (.d (.bool want))).go o.dst x.1 x.2) (ns++[fpN (rdO (s.put t (.d (.bool want))) o.op,x.2)])) (∃ x f,QE P cf o (s.put t (.d (.bool want))) x f∧(∀ y∈f.2.nu,y ∉ (s.put t (.d (.bool want))).used)∧dOk cf.n o.dst∧xrun K r ((s.put t (.d (.bool want))).go o.dst x f.2) (ns++[fpN f]))) ∧
       (b=!want→dOk cf.n o.dst∧xrun K r ((s.put t (.d (.bool (!want)))).go o.dst (.tup []) ef0) (ns++[([],[],[])]))
     | some (_,.tup [])=>dOk cf.n o.dst∧xrun K r (s.go o.dst (.tup []) ef0) (ns++[([],[],[])])
     | _=>False
def agE (l:List Nat) (f:Fp) (s s':St):Prop:=(∀ y∈f.2.nu,y ∉ s'.used)∧(∀ p∈f.1,s'.hp p=s.hp p)∧∀ t∈l,s'.fr t=s.fr t
def mV (i:Nat) (o:Oper) (s:St) (x:AV) (f:Fp):Prop:=(∀ y∈f.2.nu,y ∉ s.used)∧∀ s',agE (o.looksAt ops) f s s'→∀ B,cf.fits B→∀ ds β a w,a.defers=ds→Sim B β s' a.tmps w→∀ Q',
 wpOpIn (Fw cf.ro) 0 P ops Q' i (fun a' w'=>a'.defers=ds∧∃ β',Sim B β' (s'.go o.dst x f.2) a'.tmps w') a w
variable {P cf ops}
theorem xH {o:Oper} {f:Fp} {s s':St} (h:agE (o.looksAt ops) f s s'):∀ y∈o.op.operands,ev s' y=ev s y:=fun y hy =>
 Hw fun t ht=>h.2.2 t (by subst ht;exact List.mem_append_left _ (List.mem_filterMap.2 ⟨.tmp t,by simpa using hy,rfl⟩))
theorem zD {o:Oper} {s:St} {x:AV × Ef} (h:ylE (opE P.ti o.op o.dst s) x) (hd:dOk cf.n o.dst):QE P cf o s x.1 (rdO s o.op,x.2):=by
 intro s' hu hh he B hB ds β a w hds hs Q'
 have e:=G8 hh he h hu
 have hr:=D4 (n:=B.n) (d:=o.dst) (s:=s') (by rw [hB.1];exact hd) e
 rcases fo hs hr with hz | ⟨nx,v,w',s2,β',hrun,hnx,rfl,hsim⟩
 ·exact hz.elim
 ·have hnd:∀ c,o.op≠.defer c:=by
   intro c hc
   rw [hc] at h
   exact h.elim
  exact aA hnd hrun hnx ⟨by cases o.dst<;>exact hds,β',hsim⟩
theorem Aq (s:St) (d:Option Nat) (x:AV):s.go d x ef0=s.putd d x:=by unfold St.go;rw [qn]
theorem nC {i:Nat} {o:Oper} {s:St} (hi:ops[i]?=some o) (hd:dOk cf.n o.dst) (hw:∀ (B:Base) (β:Name→Option Blk) s' tm w,agE (o.looksAt ops) ([],ef0) s s'→Sim B β s' tm w→Region.wanted o (yielded ops tm)=false):mV P cf ops i o s (.tup []) ([],ef0):=by
 refine ⟨fun y hy=>(by cases hy),fun s' hag B hB ds β a w hds hs Q'=>?_⟩
 unfold wpOpIn
 simp only [hi,hw B β s' a.tmps w hag hs,Bool.false_eq_true,if_false]
 refine ⟨fun _ _=>trivial,by cases o.dst<;>exact hds,β,?_⟩
 rw [Aq]
 refine hs.putd (fun t ht=>?_) (.tup #[] [] rfl (by simp))
 rw [ht] at hd
 rw [hB.1];exact hd
theorem rZ {i:Nat} {o:Oper} {s:St} {x:AV} {f:Fp} (hi:ops[i]?=some o) (hf:∀ y∈f.2.nu,y ∉ s.used) (hw:∀ (B:Base) (β:Name→Option Blk) s' tm w,agE (o.looksAt ops) f s s'→Sim B β s' tm w→Region.wanted o (yielded ops tm)=true) (h:QE P cf o s x f):mV P cf ops i o s x f:=by
 refine ⟨hf,fun s' hag B hB ds β a w hds hs Q'=>?_⟩
 unfold wpOpIn
 simp only [hi,hw B β s' a.tmps w hag hs,if_true]
 exact h s' hag.1 hag.2.1 (xH hag) B hB ds β a w hds hs Q'
theorem Ax {K:St→Ns→Prop} {i:Nat} {o:Oper} {r:List Oper} {s:St} {ns:Ns} (hi:ops[i]?=some o) (h:xrun P cf ops K (o::r) s ns):∃ x f,mV P cf ops i o s x f∧xrun P cf ops K r (s.go o.dst x f.2) (ns++[fpN f]):=by
 unfold xrun at h
 have go:∀ s1,s1=s→(∀ (f:Fp) (B:Base) (β:Name→Option Blk) s' tm w,agE (o.looksAt ops) f s s'→Sim B β s' tm w→Region.wanted o (yielded ops tm)=true) →
   qvE (opE P.ti o.op o.dst s1) (fun x=>dOk cf.n o.dst∧xrun P cf ops K r (s1.go o.dst x.1 x.2) (ns++[fpN (rdO s1 o.op,x.2)])) (∃ x f,QE P cf o s1 x f∧(∀ y∈f.2.nu,y ∉ s1.used)∧dOk cf.n o.dst∧xrun P cf ops K r (s1.go o.dst x f.2) (ns++[fpN f])) →
   ∃ x f,mV P cf ops i o s x f∧xrun P cf ops K r (s.go o.dst x f.2) (ns++[fpN f]):=by
  rintro s1 rfl hw h
  rcases zQ h with ⟨x,h1,hd,h2⟩ | ⟨x,f,h1,hn,_,h2⟩
  ·exact ⟨x.1,_,rZ hi (yE h1) (hw _) (zD h1 hd),h2⟩
  ·exact ⟨x,f,rZ hi hn (hw _) h1,h2⟩
 cases hg:o.guard with
 | none =>
   rw [hg] at h
   exact go s rfl (fun _ _ _ _ _ _ _ _=>by simp [Region.wanted,hg]) h
 | some q =>
   obtain ⟨j,want⟩:=q
   rw [hg] at h
   simp only at h
   split at h
   ·rename_i t b hgv
    obtain ⟨oj,hj,hjd,hjt⟩:=kQ hgv
    have hl:=kY hg hj hjd
    by_cases hb:b=want
    ·have e:s.put t (.d (.bool want))=s:=nG (by rw [hjt,hb])
     have h1:=h.1 hb
     rw [e] at h1
     refine go s rfl (fun f B β s' tm w hag hs=>?_) h1
     have:=je hs hj hjd ((hag.2.2 t hl).trans hjt)
     simp [Region.wanted,hg,this,hb]
    ·have hbn:b=!want:=by cases b<;>cases want<;>simp_all
     have e:s.put t (.d (.bool (!want)))=s:=nG (by rw [hjt,hbn])
     obtain ⟨hd,h2⟩:=h.2 hbn
     rw [e] at h2
     refine ⟨_,_,nC hi hd (fun B β s' tm w hag hs=>?_),h2⟩
     have:=je hs hj hjd ((hag.2.2 t hl).trans hjt)
     simp [Region.wanted,hg,this,hb]
   ·rename_i t hgv
    obtain ⟨oj,hj,hjd,hjt⟩:=kQ hgv
    have hl:=kY hg hj hjd
    refine ⟨_,_,nC hi h.1 (fun B β s' tm w hag hs=>?_),h.2⟩
    have:=p4 hs hj hjd ((hag.2.2 t hl).trans hjt)
    simp [Region.wanted,hg,this]
   ·exact h.elim
end
end Go.Ab
namespace Go.Ab
theorem Sim.reuse {B:Base} {β:Name→Option Blk} {s s2:St} {tm:Array Value} {w:World} (h:Sim B β s tm w) (h1:s2.hp=s.hp) (h2:s2.fr=s.fr) (h3:∀ y,y∈s.used↔y∈s2.used):Sim B β s2 tm w:=by
 obtain ⟨fr,hp,us⟩:=s
 obtain ⟨fr2,hp2,us2⟩:=s2
 simp only at h1 h2 h3
 subst h1;subst h2
 have hst:∀ p,nm us p→Stays hp2 hp2 β β p:=fun p _ o ho=>⟨o,ho,Ob.bE _,rfl⟩
 have hu:∀ x∈us,x∈us2:=fun x hx=>(h3 x).1 hx
 exact { tms:=h.tms,io:=h.io,size:=h.size,frame:=h.frame,slots:=fun t=>(h.slots t).mono (fun _ _ h=>h) hu hst,objs:=fun p o ho=>⟨(h.objs p o ho).1.mono hu,(h.objs p o ho).2.mono (fun _ _ h=>h) hu hst rfl fun _ _=>rfl⟩,blocks:=h.blocks,inj:=h.inj,us:=fun x hx=>hu x (h.us x hx),stay:=h.stay }
section
variable {P:Program} {cf:Cf} {ops:Array Oper}
def dP (ops:Array Oper) (xs:Nat→AV) (fs:Nat→Fp):List Nat→St→St
 | [],s=>s
 | i::l,s=>dP ops xs fs l (s.go (b8 ops i) (xs i) (fs i).2)
theorem oJ (xs:Nat→AV) (fs:Nat→Fp) (i:Nat):∀ (l:List Nat) (s:St),dP ops xs fs (l++[i]) s=(dP ops xs fs l s).go (b8 ops i) (xs i) (fs i).2
 | [],_=>rfl
 | j::l,s=>by rw [List.cons_append,dP,oJ xs fs i l,dP]
theorem DV (s:St) (d:Option Nat) (x:AV) (e:Ef):(s.go d x e).used=e.nu++s.used:=by
 unfold St.go
 rw [xJ]
 rfl
theorem HM (s:St) (d:Option Nat) (x:AV) (e:Ef) (t:Nat):(s.go d x e).fr t=if d=some t then x else s.fr t:=by
 unfold St.go
 cases d with
 | none=>simp [St.putd,St.eff]
 | some u =>
   show de _ _ _ _=_
   simp only [de,Option.some.injEq]
   by_cases h:t=u
   ·rw [if_pos h,if_pos h.symm]
   ·rw [if_neg h,if_neg (fun e=>h e.symm)]
    rfl
theorem HB (s:St) (d:Option Nat) (x:AV) (e:Ef) (p:Name):(s.go d x e).hp p=(wl e.wr p).getD (s.hp p):=by
 unfold St.go
 rw [DH]
 rfl
theorem uA:∀ {wr:List (Name × Option Ob)} {p:Name} {v:Option Ob},wl wr p=some v→p∈wr.map (·.1)
 | [],_,_,h=>by cases h
 | q::r,p,v,h=>by
   unfold wl at h
   cases hr:wl r p with
   | some u=>exact List.mem_cons_of_mem _ (uA hr)
   | none =>
     rw [hr] at h
     simp only at h
     split at h
     ·rename_i e;rw [e];exact List.mem_cons_self
     ·cases h
structure OKE (ops:Array Oper) (xs:Nat→AV) (fs:Nat→Fp) (s:St) (L:List Nat) (s':St):Prop where
 used:∀ y,y∈s'.used↔y∈s.used∨∃ k∈L,y∈(fs k).2.nu
 slot:∀ t,(∃ k∈L,b8 ops k=some t∧s'.fr t=xs k)∨((∀ k∈L,b8 ops k≠some t)∧s'.fr t=s.fr t)
 heap:∀ p,(∃ k∈L,∃ v,wl (fs k).2.wr p=some v∧(∀ k'∈L,(∃ v',wl (fs k').2.wr p=some v')→k'≤k)∧s'.hp p=v)∨((∀ k∈L,wl (fs k).2.wr p=none)∧s'.hp p=s.hp p)
theorem OKE.nil (xs:Nat→AV) (fs:Nat→Fp) (s:St):OKE ops xs fs s [] s:=⟨fun _=>by simp,fun _=>.inr ⟨by simp,rfl⟩,fun _=>.inr ⟨by simp,rfl⟩⟩
theorem OKE.snoc {xs:Nat→AV} {fs:Nat→Fp} {s s':St} {L:List Nat} {i:Nat} (h:OKE ops xs fs s L s') (hw:∀ k∈L,∀ p v v',wl (fs k).2.wr p=some v→wl (fs i).2.wr p=some v'→k≤i) :
  OKE ops xs fs s (L++[i]) (s'.go (b8 ops i) (xs i) (fs i).2):=by
 refine ⟨fun y=>?_,fun t=>?_,fun p=>?_⟩
 ·rw [DV,List.mem_append,h.used y]
  constructor
  ·rintro (h1 | h1 | ⟨k,hk,h1⟩)
   ·exact .inr ⟨i,by simp,h1⟩
   ·exact .inl h1
   ·exact .inr ⟨k,List.mem_append_left _ hk,h1⟩
  ·rintro (h1 | ⟨k,hk,h1⟩)
   ·exact .inr (.inl h1)
   ·rcases List.mem_append.1 hk with hk | hk
    ·exact .inr (.inr ⟨k,hk,h1⟩)
    ·rw [List.mem_singleton.1 hk] at h1;exact .inl h1
 ·rw [HM]
  by_cases hd:b8 ops i=some t
  ·exact .inl ⟨i,by simp,hd,by rw [if_pos hd]⟩
  ·rw [if_neg hd]
   rcases h.slot t with ⟨k,hk,h1,h2⟩ | ⟨h1,h2⟩
   ·exact .inl ⟨k,List.mem_append_left _ hk,h1,h2⟩
   ·refine .inr ⟨fun k hk=>?_,h2⟩
    rcases List.mem_append.1 hk with hk | hk
    ·exact h1 k hk
    ·rw [List.mem_singleton.1 hk];exact hd
 ·rw [HB]
  cases he:wl (fs i).2.wr p with
  | some o =>
    refine .inl ⟨i,by simp,o,he,fun k' hk' ⟨o',ho'⟩=>?_,rfl⟩
    rcases List.mem_append.1 hk' with hk' | hk'
    ·exact hw k' hk' p o' o ho' he
    ·rw [List.mem_singleton.1 hk'];exact Nat.le_refl _
  | none =>
    show _∨(_∧s'.hp p=_)
    rcases h.heap p with ⟨k,hk,o,h1,h2,h3⟩ | ⟨h1,h2⟩
    ·refine .inl ⟨k,List.mem_append_left _ hk,o,h1,fun k' hk' ho'=>?_,h3⟩
     rcases List.mem_append.1 hk' with hk' | hk'
     ·exact h2 k' hk' ho'
     ·rw [List.mem_singleton.1 hk',he] at ho'
      obtain ⟨_,ho'⟩:=ho'
      cases ho'
    ·refine .inr ⟨fun k hk=>?_,h2⟩
     rcases List.mem_append.1 hk with hk | hk
     ·exact h1 k hk
     ·rw [List.mem_singleton.1 hk];exact he
inductive Anc (ops:Array Oper):Nat→Nat→Prop
 | one {i:Nat} {o:Oper} {e:Edge} (ho:ops[i]?=some o) (he:e∈o.after) (hb:Region.binds .any e=true):Anc ops i e.on
 | tr {i:Nat} {o:Oper} {e:Edge} {k:Nat} (ho:ops[i]?=some o) (he:e∈o.after) (hb:Region.binds .any e=true) (h:Anc ops e.on k):Anc ops i k
def kH (acc:List (List Nat)) (o:Oper):List Nat:=((o.after.toList.filter (Region.binds .any)).flatMap fun e=>e.on::acc.getD e.on []).eraseDups
def ancs:List (List Nat)→List Oper→List (List Nat)
 | acc,[]=>acc
 | acc,o::r=>ancs (acc++[kH acc o]) r
theorem iX:∀ (r:List Oper) (acc:List (List Nat)),(∀ j,r[j]?=ops[acc.length+j]?)→(∀ i k,k∈acc.getD i []→Anc ops i k)→∀ i k,k∈(ancs acc r).getD i []→Anc ops i k
 | [],_,_,h=>h
 | o::r,acc,hr,h=>by
   refine iX r (acc++[kH acc o]) (fun j=>?_) (fun i k hk=>?_)
   ·have:=hr (j+1)
    rw [List.getElem?_cons_succ] at this
    rw [this,List.length_append,List.length_singleton,show acc.length+(j+1)=acc.length+1+j by omega]
   ·have ho:ops[acc.length]?=some o:=by simpa using (hr 0).symm
    by_cases hi:i<acc.length
    ·refine h i k ?_
     rw [List.getD_eq_getElem?_getD,List.getElem?_append_left hi] at hk
     rw [List.getD_eq_getElem?_getD];exact hk
    ·by_cases hi2:i=acc.length
     ·subst hi2
      have:(acc++[kH acc o]).getD acc.length []=kH acc o:=by simp
      rw [this] at hk
      unfold kH at hk
      rw [List.mem_eraseDups,List.mem_flatMap] at hk
      obtain ⟨e,he,hk⟩:=hk
      rw [List.mem_filter] at he
      have he1:e∈o.after:=Array.mem_toList_iff.1 he.1
      rcases List.mem_cons.1 hk with rfl | hk
      ·exact .one ho he1 he.2
      ·exact .tr ho he1 he.2 (h _ _ hk)
     ·have:(acc++[kH acc o]).getD i []=[]:=by
       rw [List.getD_eq_getElem?_getD,List.getElem?_eq_none (by simp;omega)];rfl
      rw [this] at hk;cases hk
theorem gk {listed:Array Bool} {L:List Nat} (hu:Up ops listed L) {i k:Nat} (h:Anc ops i k):i∈L→k∈L:=by
 induction h with
 | one ho he hb=>exact fun hi=>hu.closed _ hi _ ho _ he hb
 | tr ho he hb _ ih=>exact fun hi=>ih (hu.closed _ hi _ ho _ he hb)
theorem kM {listed:Array Bool} {L:List Nat} (hu:Up ops listed L) {i k:Nat} {o:Oper} (ho:ops[i]?=some o) (hw:∀ e∈o.after,Region.binds .any e=true→e.on∈L) (h:Anc ops i k):k∈L:=by
 cases h with
 | one ho' he hb =>
   rw [ho] at ho';cases ho'
   exact hw _ he hb
 | tr ho' he hb h2 =>
   rw [ho] at ho';cases ho'
   exact gk hu h2 (hw _ he hb)
def DX (A:List (List Nat)) (i k:Nat):Bool:=(decide (k<i) && (A.getD i []).contains k) || (decide (i<k) && (A.getD k []).contains i)
def chk (ops:Array Oper) (ns:Ns):Bool :=
 let A:=ancs [] ops.toList
 (List.range ops.size).all fun i =>
  (match ops[i]? with
   | some o=>o.after.toList.all fun e=>!Region.binds .any e || decide (e.on<i)
   | none=>true) &&
  (List.range ops.size).all fun k =>
   (match b8 ops k with
    | none=>true
    | some t=>(decide (i=k) || b8 ops i != some t) && (!(pP ops i).contains t || DX A i k)) &&
   ((ns.getD k ([],[],[])).2.1.all fun p=>decide (i=k) || (!(ns.getD i ([],[],[])).1.contains p && !(ns.getD i ([],[],[])).2.1.contains p) || DX A i k) &&
   ((ns.getD k ([],[],[])).2.2.all fun y=>decide (i=k) || !(ns.getD i ([],[],[])).2.2.contains y)
def bef (ops:Array Oper) (i k:Nat):Prop:=(k<i∧Anc ops i k)∨(i<k∧Anc ops k i)
theorem tI {i k:Nat} (h:DX (ancs [] ops.toList) i k=true):bef ops i k:=by
 have hs:=iX (ops:=ops) ops.toList [] (fun j=>by simp) (fun i k hk=>by simp at hk)
 simp only [DX,Bool.or_eq_true,Bool.and_eq_true,decide_eq_true_eq,List.contains_eq_mem] at h
 rcases h with ⟨h1,h2⟩ | ⟨h1,h2⟩
 ·exact .inl ⟨h1,hs _ _ h2⟩
 ·exact .inr ⟨h1,hs _ _ h2⟩
section
variable {ns:Ns} (h:chk ops ns=true)
include h
theorem oC {i:Nat} {o:Oper} (ho:ops[i]?=some o):∀ e∈o.after,Region.binds .any e=true→e.on<i:=by
 intro e he hb
 have hi:i<ops.size:=by
  rcases Nat.lt_or_ge i ops.size with hlt | hge
  ·exact hlt
  ·rw [Array.getElem?_eq_none hge] at ho;cases ho
 have h2:=List.all_eq_true.1 h i (List.mem_range.2 hi)
 simp only [ho,Bool.and_eq_true] at h2
 have h3:=List.all_eq_true.1 h2.1 e (Array.mem_toList_iff.2 he)
 simpa [hb] using h3
theorem fy {i k:Nat} (hi:i<ops.size) (hk:k<ops.size):(∀ t,b8 ops k=some t→(i=k∨b8 ops i≠some t)∧(t∈pP ops i→bef ops i k)) ∧
  (∀ p,p∈(ns.getD k ([],[],[])).2.1→i=k∨(p ∉ (ns.getD i ([],[],[])).1∧p ∉ (ns.getD i ([],[],[])).2.1)∨bef ops i k) ∧
  ∀ y,y∈(ns.getD k ([],[],[])).2.2→i=k∨y ∉ (ns.getD i ([],[],[])).2.2:=by
 have h2:=List.all_eq_true.1 h i (List.mem_range.2 hi)
 simp only [Bool.and_eq_true] at h2
 have h3:=List.all_eq_true.1 h2.2 k (List.mem_range.2 hk)
 simp only [Bool.and_eq_true] at h3
 refine ⟨fun t ht=>?_,fun p hp=>?_,fun y hy=>?_⟩
 ·have h4:=h3.1.1
  rw [ht] at h4
  simp only [Bool.and_eq_true,Bool.or_eq_true,decide_eq_true_eq,bne_iff_ne,ne_eq,Bool.not_eq_true',List.contains_eq_mem,decide_eq_false_iff_not] at h4
  exact ⟨h4.1,fun hl=>h4.2.elim (fun h5=>absurd hl h5) tI⟩
 ·have h4:=List.all_eq_true.1 h3.1.2 p hp
  simp only [Bool.or_eq_true,Bool.and_eq_true,decide_eq_true_eq,Bool.not_eq_true',List.contains_eq_mem,decide_eq_false_iff_not] at h4
  rcases h4 with (h4 | h4) | h4
  ·exact .inl h4
  ·exact .inr (.inl h4)
  ·exact .inr (.inr (tI h4))
 ·have h4:=List.all_eq_true.1 h3.2 y hy
  simp only [Bool.or_eq_true,decide_eq_true_eq,Bool.not_eq_true',List.contains_eq_mem,decide_eq_false_iff_not] at h4
  exact h4
end
theorem iO {K:St→Ns→Prop}:∀ (r:List Oper) (i:Nat) (s:St) (ns:Ns),(∀ j,(r[j]?=ops[i+j]?))→xrun P cf ops K r s ns →
  ∃ (xs:Nat→AV) (fs:Nat→Fp),K (dP ops xs fs (List.range' i r.length) s) (ns++(List.range' i r.length).map fun j=>fpN (fs j))∧∀ j o,i≤j→ops[j]?=some o→mV P cf ops j o (dP ops xs fs (List.range' i (j-i)) s) (xs j) (fs j)
 | [],i,s,ns,hr,h=>⟨fun _=>.un,fun _=>([],ef0),by simpa [xrun,dP] using h,fun j o hij ho=>by
  have:=hr (j-i)
  rw [show i+(j-i)=j by omega,ho] at this
  simp at this⟩
 | o::r,i,s,ns,hr,h=>by
   have hi:ops[i]?=some o:=by simpa using (hr 0).symm
   obtain ⟨x,f,hf,h2⟩:=Ax hi h
   obtain ⟨xs,fs,hK,hall⟩:=iO r (i+1) _ _ (fun j=>by have:=hr (j+1);rw [List.getElem?_cons_succ] at this;rw [this,show i+(j+1)=i+1+j by omega]) h2
   obtain ⟨ys,hys⟩:∃ ys:Nat→AV,ys=fun j=>if j=i then x else xs j:=⟨_,rfl⟩
   obtain ⟨gs,hgs⟩:∃ gs:Nat→Fp,gs=fun j=>if j=i then f else fs j:=⟨_,rfl⟩
   have hd:b8 ops i=o.dst:=by simp [b8,hi]
   have e1:∀ (n k:Nat) (s:St),i<k→dP ops ys gs (List.range' k n) s=dP ops xs fs (List.range' k n) s:=by
    intro n
    induction n with
    | zero=>intros;rfl
    | succ n ih =>
      intro k s hk
      rw [List.range'_succ,dP,dP,ih (k+1) _ (by omega),hys,hgs]
      simp only [if_neg (show ¬ k=i by omega)]
   have e2:∀ (n k:Nat),i<k→((List.range' k n).map fun j=>fpN (gs j))=(List.range' k n).map fun j=>fpN (fs j):=by
    intro n k hk
    refine List.map_congr_left fun j hj=>?_
    rw [List.mem_range'_1] at hj
    rw [hgs]
    simp only [if_neg (show ¬ j=i by omega)]
   have hyi:ys i=x:=by rw [hys];simp
   have hgi:gs i=f:=by rw [hgs];simp
   refine ⟨ys,gs,?_,fun j o' hij ho'=>?_⟩
   ·rw [List.length_cons,List.range'_succ,dP,hd,hyi,hgi,e1 _ _ _ (by omega),List.map_cons,hgi,e2 _ _ (by omega)]
    simpa using hK
   ·rcases Nat.lt_or_ge i j with hlt | hge
    ·have:=hall j o' (by omega) ho'
     rw [show j-i=(j-(i+1))+1 by omega,List.range'_succ,dP,hd,hyi,hgi,e1 _ _ _ (by omega)]
     rw [show ys j=xs j by rw [hys];simp only [if_neg (show ¬ j=i by omega)],show gs j=fs j by rw [hgs];simp only [if_neg (show ¬ j=i by omega)]]
     exact this
    ·have:j=i:=by omega
     subst this
     rw [hi] at ho'
     cases ho'
     rw [Nat.sub_self,hyi,hgi]
     exact hf
section
variable {xs:Nat→AV} {fs:Nat→Fp} {s:St} {ns:Ns} (hq:chk ops ns=true) (hns:∀ i,i<ops.size→ns.getD i ([],[],[])=fpN (fs i))
include hq hns
theorem uj {i k:Nat} (hi:i<ops.size) (hk:k<ops.size) (hne:i≠k) {p:Name} {v:Option Ob} (hw:wl (fs k).2.wr p=some v) (hl:p∈(fs i).1∨∃ v',wl (fs i).2.wr p=some v'):bef ops i k:=by
 have h1:=(fy hq hi hk).2.1 p (by rw [hns k hk];exact uA hw)
 rcases h1 with h1 | ⟨h1,h2⟩ | h1
 ·exact absurd h1 hne
 ·rw [hns i hi] at h1 h2
  rcases hl with hl | ⟨v',hl⟩
  ·exact absurd hl h1
  ·exact absurd (uA hl) h2
 ·exact h1
omit hq hns in
theorem vR:∀ n,n≤ops.size→OKE ops xs fs s (List.range' 0 n) (dP ops xs fs (List.range' 0 n) s):=by
 intro n
 induction n with
 | zero=>exact fun _=>.nil _ _ _
 | succ n ih =>
   intro hn
   have:=(ih (by omega)).snoc (i:=n) (fun k hk _ _ _ _ _=>by rw [List.mem_range'_1] at hk;omega)
   rw [List.range'_concat,Nat.one_mul,Nat.zero_add,oJ]
   exact this
theorem oT {listed:Array Bool} {L:List Nat} (hu:Up ops listed L) {s':St} (hL:OKE ops xs fs s L s') {i:Nat} {o:Oper} (ho:ops[i]?=some o) (hi:i ∉ L)
  (hw:∀ e∈o.after,Region.binds .any e=true→e.on∈L) (hfr:∀ y∈(fs i).2.nu,y ∉ (dP ops xs fs (List.range' 0 (i-0)) s).used):agE (o.looksAt ops) (fs i) (dP ops xs fs (List.range' 0 (i-0)) s) s':=by
 have hlt:i<ops.size:=by
  rcases Nat.lt_or_ge i ops.size with hlt | hge
  ·exact hlt
  ·rw [Array.getElem?_eq_none hge] at ho;cases ho
 rw [Nat.sub_zero] at hfr ⊢
 have hT:=vR (ops:=ops) (fs:=fs) (s:=s) (xs:=xs) i (by omega)
 have go:∀ k,bef ops i k→(k<i↔k∈L):=fun k hb=>by
  rcases hb with ⟨h1,h2⟩ | ⟨h1,h2⟩
  ·exact ⟨fun _=>kM hu ho hw h2,fun _=>h1⟩
  ·exact ⟨fun h=>by omega,fun h=>absurd (gk hu h2 h) hi⟩
 have hdst:∀ a b t,b8 ops a=some t→b8 ops b=some t→a=b:=fun a b t ha hb =>
  ((fy hq (ft ha) (ft hb)).1 t hb).1.elim id (fun h=>absurd ha h)
 refine ⟨fun y hy hu'=>?_,fun p hp=>?_,fun t ht=>?_⟩
 ·rcases (hL.used y).1 hu' with h1 | ⟨k,hk,h1⟩
  ·exact hfr y hy ((hT.used y).2 (.inl h1))
  ·rcases (fy hq hlt (hu.lt k hk)).2.2 y (by rw [hns k (hu.lt k hk)];exact h1) with h2 | h2
   ·exact hi (h2 ▸ hk)
   ·rw [hns i hlt] at h2;exact h2 hy
 ·have key:∀ k,k<ops.size→∀ ob,wl (fs k).2.wr p=some ob→i≠k→(k<i↔k∈L):=fun k hk ob hob hne=>go k (uj hq hns hlt hk hne hob (.inl hp))
  rcases hT.heap p with ⟨k,hk,ob,h1,h2,h3⟩ | ⟨h1,h2⟩
  ·rw [List.mem_range'_1] at hk
   have hkL:k∈L:=(key k (by omega) ob h1 (by omega)).1 (by omega)
   rcases hL.heap p with ⟨k2,hk2,ob2,g1,g2,g3⟩ | ⟨g1,_⟩
   ·have hk2i:k2<i:=(key k2 (hu.lt k2 hk2) ob2 g1 (fun e=>hi (e ▸ hk2))).2 hk2
    have a1:=h2 k2 (by rw [List.mem_range'_1];omega) ⟨ob2,g1⟩
    have a2:=g2 k hkL ⟨ob,h1⟩
    have:k=k2:=by omega
    subst this
    rw [h1] at g1
    cases g1
    rw [g3,h3]
   ·rw [g1 k hkL] at h1;cases h1
  ·rcases hL.heap p with ⟨k2,hk2,ob2,g1,_,_⟩ | ⟨_,g2⟩
   ·have hk2i:k2<i:=(key k2 (hu.lt k2 hk2) ob2 g1 (fun e=>hi (e ▸ hk2))).2 hk2
    rw [h1 k2 (by rw [List.mem_range'_1];omega)] at g1;cases g1
   ·rw [g2,h2]
 ·have ht':t∈pP ops i:=by unfold pP;rw [ho];exact ht
  rcases hT.slot t with ⟨k,hk,h1,h2⟩ | ⟨h1,h2⟩
  ·rw [List.mem_range'_1] at hk
   have hkL:k∈L:=(go k (((fy hq hlt (ft h1)).1 t h1).2 ht')).1 (by omega)
   rcases hL.slot t with ⟨k2,_,g1,g2⟩ | ⟨g1,_⟩
   ·rw [h2,g2,hdst k k2 t h1 g1]
   ·exact absurd h1 (g1 k hkL)
  ·rcases hL.slot t with ⟨k2,hk2,g1,_⟩ | ⟨_,g2⟩
   ·have:=(go k2 (((fy hq hlt (ft g1)).1 t g1).2 ht')).2 hk2
    exact absurd g1 (h1 k2 (by rw [List.mem_range'_1];omega))
   ·rw [g2,h2]
omit hns in
theorem oU {L:List Nat} {s':St} (hL:OKE ops xs fs s L s') (hlt:∀ j∈L,j<ops.size) (hall:∀ j,j<ops.size→j∈L):(s'.hp=(dP ops xs fs (List.range' 0 ops.size) s).hp∧s'.fr=(dP ops xs fs (List.range' 0 ops.size) s).fr)∧∀ y,y∈s'.used↔y∈(dP ops xs fs (List.range' 0 ops.size) s).used:=by
 have hT:=vR (ops:=ops) (fs:=fs) (s:=s) (xs:=xs) ops.size (Nat.le_refl _)
 have hdst:∀ a b t,b8 ops a=some t→b8 ops b=some t→a=b:=fun a b t ha hb =>
  ((fy hq (ft ha) (ft hb)).1 t hb).1.elim id (fun h=>absurd ha h)
 have hm:∀ k,k∈L↔k∈List.range' 0 ops.size:=fun k=>by
  rw [List.mem_range'_1]
  exact ⟨fun h=>by have:=hlt k h;omega,fun h=>hall k (by omega)⟩
 refine ⟨⟨funext fun p=>?_,funext fun t=>?_⟩,fun y=>?_⟩
 ·rcases hT.heap p with ⟨k,hk,ob,h1,h2,h3⟩ | ⟨h1,h2⟩
  ·rcases hL.heap p with ⟨k2,hk2,ob2,g1,g2,g3⟩ | ⟨g1,_⟩
   ·have a1:=h2 k2 ((hm k2).1 hk2) ⟨ob2,g1⟩
    have a2:=g2 k ((hm k).2 hk) ⟨ob,h1⟩
    have:k=k2:=by omega
    subst this
    rw [h1] at g1
    cases g1
    rw [g3,h3]
   ·rw [g1 k ((hm k).2 hk)] at h1;cases h1
  ·rcases hL.heap p with ⟨k2,hk2,ob2,g1,_,_⟩ | ⟨_,g2⟩
   ·rw [h1 k2 ((hm k2).1 hk2)] at g1;cases g1
   ·rw [g2,h2]
 ·rcases hT.slot t with ⟨k,hk,h1,h2⟩ | ⟨h1,h2⟩
  ·rcases hL.slot t with ⟨k2,_,g1,g2⟩ | ⟨g1,_⟩
   ·rw [h2,g2,hdst k k2 t h1 g1]
   ·exact absurd h1 (g1 k ((hm k).2 hk))
  ·rcases hL.slot t with ⟨k2,hk2,g1,_⟩ | ⟨_,g2⟩
   ·exact absurd g1 (h1 k2 ((hm k2).1 hk2))
   ·rw [g2,h2]
 ·rw [hL.used y,hT.used y]
  refine or_congr_right ⟨?_,?_⟩
  ·rintro ⟨k,hk,h1⟩;exact ⟨k,(hm k).1 hk,h1⟩
  ·rintro ⟨k,hk,h1⟩;exact ⟨k,(hm k).2 hk,h1⟩
omit hns in
theorem EX {listed:Array Bool} {L:List Nat} (hu:Up ops listed L) (hr:Region.ready .any ops listed=[]):∀ j,j<ops.size→j∈L:=by
 intro j
 induction j using Nat.strongRecOn with
 | ind j ih =>
   intro hlt
   apply Decidable.byContradiction
   intro hn
   obtain ⟨o,ho⟩:∃ o,ops[j]?=some o:=⟨ops[j],by simp⟩
   have:j∈Region.ready .any ops listed:=by
    rw [mem_ready]
    refine ⟨?_,o,ho,fun e he hb=>?_⟩
    ·have:=hu.mem j hlt
     have hl:j<listed.size:=by rw [hu.size];exact hlt
     cases hv:listed[j] with
     | true=>exact absurd (this.1 (by simp [hl,hv])) hn
     | false=>simp [hl,hv]
    ·have h2:=oC hq ho e he hb
     have h3:=(hu.mem e.on (by omega)).2 (ih e.on h2 (by omega))
     simp [h3]
   rw [hr] at this;cases this
theorem IV {B:Base} (hB:cf.fits B) {ds:List Deferred} {Q:Exit→Act→World→Prop}
  (hall:∀ j o,ops[j]?=some o→mV P cf ops j o (dP ops xs fs (List.range' 0 (j-0)) s) (xs j) (fs j))
  (hK:∀ β a w,a.defers=ds→Sim B β (dP ops xs fs (List.range' 0 ops.size) s) a.tmps w→Q .normal a w) :
  ∀ (fuel:Nat) (listed:Array Bool) (L:List Nat) (s':St) (β:Name→Option Blk) (a:Act) (w:World),Up ops listed L→L.Nodup→ops.size≤fuel+L.length→a.defers=ds→OKE ops xs fs s L s'→Sim B β s' a.tmps w →
   wpAnyIn (Fw cf.ro) 0 P .any ops Q fuel listed a w:=by
 have fin:∀ (listed:Array Bool) (L:List Nat) (s':St) (β:Name→Option Blk) (a:Act) (w:World),Up ops listed L→a.defers=ds→OKE ops xs fs s L s'→Sim B β s' a.tmps w→Region.ready .any ops listed=[]→Q .normal a w:=by
  intro listed L s' β a w hu hds hL hs hr
  obtain ⟨⟨e1,e2⟩,e3⟩:=oU hq hL hu.lt (EX hq hu hr)
  exact hK β a w hds (hs.reuse e1.symm e2.symm e3)
 intro fuel
 induction fuel with
 | zero =>
   intro listed L s' β a w hu hnd hn hds hL hs
   have hr:Region.ready .any ops listed=[]:=by
    apply List.eq_nil_iff_forall_not_mem.2
    intro j hj
    obtain ⟨h0,o,ho,_⟩:=mem_ready.1 hj
    have hlt:j<ops.size:=by
     rcases Nat.lt_or_ge j ops.size with hlt | hge
     ·exact hlt
     ·rw [Array.getElem?_eq_none hge] at ho;cases ho
    have hjL:j∈L:=by
     apply Decidable.byContradiction
     intro hn'
     have hsub:(j::L).length≤ops.size:=by
      refine im ops.size (j::L) (List.nodup_cons.2 ⟨hn',hnd⟩) fun x hx=>?_
      rcases List.mem_cons.1 hx with rfl | hx
      ·exact hlt
      ·exact hu.lt x hx
     simp only [List.length_cons] at hsub
     omega
    have h3:=(hu.mem j hlt).2 hjL
    simp [h3] at h0
   exact ⟨hr,fin listed L s' β a w hu hds hL hs hr⟩
 | succ fuel ih =>
   intro listed L s' β a w hu hnd hn hds hL hs
   refine ⟨fun hr=>fin listed L s' β a w hu hds hL hs hr,fun i hi=>?_⟩
   obtain ⟨h0,o,ho,hw⟩:=mem_ready.1 hi
   have hlt:i<ops.size:=by
    rcases Nat.lt_or_ge i ops.size with hlt | hge
    ·exact hlt
    ·rw [Array.getElem?_eq_none hge] at ho;cases ho
   have hiL:i ∉ L:=fun h=>by
    have h3:=(hu.mem i hlt).2 h
    simp [h3] at h0
   have hwL:∀ e∈o.after,Region.binds .any e=true→e.on∈L:=fun e he hb=>by
    have h1:=hw e he hb
    have h2:=oC hq ho e he hb
    refine (hu.mem e.on (by omega)).1 ?_
    have hl:e.on<listed.size:=by rw [hu.size];omega
    simp [hl] at h1
    simp [hl,h1]
   have hd:b8 ops i=o.dst:=by simp [b8,ho]
   refine wpOpIn_mono (fun a' w' ⟨hd',β',hs'⟩=>ih (listed.setIfInBounds i true) (L++[i]) _ β' a' w' ?_ ?_ ?_ hd' (hd ▸ hL.snoc ?_) hs') ((hall i o ho).2 _ (oT hq hns hu hL ho hiL hwL (hall i o ho).1) B hB ds β a w hds hs Q)
   ·refine ⟨by simpa using hu.size,fun j hj=>?_,fun j hj=>?_,fun j hj o' ho' e he hb=>?_⟩
    ·have hl:j<listed.size:=by rw [hu.size];exact hj
     by_cases hij:i=j
     ·subst hij;simp [hl]
     ·rw [Array.getElem?_setIfInBounds_ne hij,hu.mem j hj]
      simp [Ne.symm hij]
    ·rcases List.mem_append.1 hj with hj | hj
     ·exact hu.lt j hj
     ·rw [List.mem_singleton.1 hj];exact hlt
    ·rcases List.mem_append.1 hj with hj | hj
     ·exact List.mem_append_left _ (hu.closed j hj o' ho' e he hb)
     ·rw [List.mem_singleton.1 hj,ho] at ho'
      cases ho'
      exact List.mem_append_left _ (hwL e he hb)
   ·rw [List.nodup_append]
    exact ⟨hnd,by simp,fun x hx y hy=>by rw [List.mem_singleton.1 hy];rintro rfl;exact hiL hx⟩
   ·simp only [List.length_append,List.length_singleton];omega
   ·intro k hk p o1 o2 h1 h2
    have hne:i≠k:=fun e=>hiL (e ▸ hk)
    rcases uj hq hns hlt (hu.lt k hk) hne h1 (.inr ⟨o2,h2⟩) with ⟨h3,_⟩ | ⟨_,h4⟩
    ·omega
    ·exact absurd (gk hu h4 hk) hiL
end
theorem Bc {id:Nat} {l:List Oper} {s:St} {k:List It} {Q:Exit→St→Prop} (hm:P.follows .mixedOrders=true) (h:xrun P cf l.toArray (fun s' ns=>chk l.toArray ns=true∧run P cf k Q s') l s []) :
  ACk P cf (.region id l.toArray true) s k Q:=by
 obtain ⟨xs,fs,⟨hq,hK⟩,hall⟩:=iO (ops:=l.toArray) l 0 s [] (fun j=>by simp) h
 intro B hB ds β a w hds hs
 refine wpIn_region_any hm ?_
 have hns:∀ i,i<l.toArray.size→(([]:Ns)++(List.range' 0 l.length).map fun j=>fpN (fs j)).getD i ([],[],[])=fpN (fs i):=by
  intro i hi
  have hi:i<l.length:=by simpa using hi
  simp [hi]
 refine IV (ops:=l.toArray) hq hns hB (ds:=ds) (fun j o ho=>hall j o (Nat.zero_le _) ho) (fun β a w hds hs=>aP hK B hB ds β a w hds (by simpa using hs)) _ _ [] s β a _ ?_ List.nodup_nil (by simp) hds (.nil _ _ _) (hs.jR rfl rfl)
 refine ⟨by simp,fun j hj=>?_,by simp,by simp⟩
 have hj:j<l.length:=by simpa using hj
 simp [hj]
end
end Go.Ab
namespace Go.Ab
section
variable (P:Program) (cf:Cf) (ops:Array Oper) (K:St→Ns→Prop)
def xst (x:R (AV × Ef)) (o:Oper) (r:List Oper) (s:St) (ns:Ns):Prop :=
 qvE x (fun x=>dOk cf.n o.dst∧xrun P cf ops K r (s.go o.dst x.1 x.2) (ns++[fpN (rdO s o.op,x.2)])) (∃ x f,QE P cf o s x f∧(∀ y∈f.2.nu,y ∉ s.used)∧dOk cf.n o.dst∧xrun P cf ops K r (s.go o.dst x f.2) (ns++[fpN f]))
def xgd (v:Option (Nat × AV)) (want:Bool) (o:Oper) (r:List Oper) (s:St) (ns:Ns):Prop :=
 match v with
 | some (t,.d (.bool b)) =>
   (b=want→xst P cf ops K (opE P.ti o.op o.dst (s.put t (.d (.bool want)))) o r (s.put t (.d (.bool want))) ns) ∧
   (b=!want→dOk cf.n o.dst∧xrun P cf ops K r ((s.put t (.d (.bool (!want)))).go o.dst (.tup []) ef0) (ns++[([],[],[])]))
 | some (_,.tup [])=>dOk cf.n o.dst∧xrun P cf ops K r (s.go o.dst (.tup []) ef0) (ns++[([],[],[])])
 | _=>False
abbrev IT (_:Oper) (_:List Oper) (_:St) (_:Ns):Type 1:=R (AV × Ef)
abbrev I8 (_:Bool) (_:Oper) (_:List Oper) (_:St) (_:Ns):Type:=Option (Nat × AV)
abbrev I3 (_:Option Nat) (_:AV) (_:List Oper):Type:=Ef
structure XEng where
 run:(r:List Oper)→ToQ r→Ns→Prop
 stp:(o:Oper)→(r:List Oper)→(s:St)→(ns:Ns)→IT o r s ns→Prop
 gd:(w:Bool)→(o:Oper)→(r:List Oper)→(s:St)→(ns:Ns)→I8 w o r s ns→Prop
 pt:(d:Option Nat)→(x:AV)→(r:List Oper)→I3 d x r→St→Ns→Prop
 run_eq:∀ r (s:St) ns,run r s ns=xrun P cf ops K r s ns
 stp_eq:∀ (x:R (AV × Ef)) o r s ns,stp o r s ns x=xst P cf ops K x o r s ns
 gd_eq:∀ (v:Option (Nat × AV)) w o r s ns,gd w o r s ns v=xgd P cf ops K v w o r s ns
 pt_eq:∀ d x (e:Ef) r s ns,pt d x r e s ns=(dOk cf.n d∧xrun P cf ops K r (s.go d x e) ns)
theorem vv:Nonempty (XEng P cf ops K) :=
 ⟨⟨xrun P cf ops K,fun o r s ns x=>xst P cf ops K x o r s ns,fun w o r s ns v=>xgd P cf ops K v w o r s ns,fun d x r e s ns=>dOk cf.n d∧xrun P cf ops K r (s.go d x e) ns,fun _ _ _=>rfl,fun _ _ _ _ _=>rfl,fun _ _ _ _ _ _=>rfl,fun _ _ _ _ _ _=>rfl⟩⟩
end
section
variable {P:Program} {cf:Cf} {ops:Array Oper} {K:St→Ns→Prop} (E:XEng P cf ops K) (s:St) (o:Oper) (r:List Oper) (ns:Ns)
theorem HH:E.run [] s ns=K s ns:=by rw [E.run_eq];rfl
theorem HL (d:Option Nat) (op:Op) (ty:Nat) (p:String) (e:Array Edge) :
 E.run ({ dst:=d,op:=op,type:=ty,pos:=p,after:=e,guard:=none }::r) s ns=E.stp { dst:=d,op:=op,type:=ty,pos:=p,after:=e,guard:=none } r s ns (opE P.ti op d s):=by rw [E.run_eq,E.stp_eq];rfl
theorem Em (d:Option Nat) (op:Op) (ty:Nat) (p:String) (e:Array Edge) (j:Nat) (want:Bool) :
 E.run ({ dst:=d,op:=op,type:=ty,pos:=p,after:=e,guard:=some (j,want) }::r) s ns=E.gd want { dst:=d,op:=op,type:=ty,pos:=p,after:=e,guard:=some (j,want) } r s ns (dK ops j s):=by rw [E.run_eq,E.gd_eq];rfl
theorem AO (x:AV) (e:Ef):E.stp o r s ns (.ok (x,e))=E.pt o.dst x r e s (ns++[fpN (rdO s o.op,e)]):=by rw [E.stp_eq,E.pt_eq];rfl
theorem vc (p:Prop) (x:R (AV × Ef)):E.stp o r s ns (.need p x)=(p∧E.stp o r s ns x):=by rw [E.stp_eq,E.stp_eq];rfl
theorem xK (t:Nat) (x:AV) (h:t<cf.n):E.pt (some t) x r ef0 s ns=E.run r (s.put t x) ns:=by rw [E.pt_eq,E.run_eq];simp [dOk,h,St.go,qn,St.putd]
theorem td (x:AV) (p:Name) (q:Option Ob):E.pt none x r ⟨[(p,q)],[]⟩ s ns=E.run r (s.set p q) ns:=by rw [E.pt_eq,E.run_eq];simp [dOk,St.go,qY,St.putd]
theorem sC (t:Nat) (x:AV) (u:Nat) (ob:Ob) (h:t<cf.n):E.pt (some t) x r ⟨[([u],some ob)],[u]⟩ s ns=E.run r ((s.add u ob).put t x) ns:=by rw [E.pt_eq,E.run_eq];simp [dOk,h,St.go,lA,St.putd]
theorem sH (t:Nat) (x:AV) (p:Name) (u:Nat) (ob:Ob) (h:t<cf.n):E.pt (some t) x r ⟨[(p,none),([u],some ob)],[u]⟩ s ns=E.run r (((s.set p none).add u ob).put t x) ns:=by rw [E.pt_eq,E.run_eq];simp [dOk,h,St.go,wj,St.putd]
theorem ql (t:Nat):E.gd true o r s ns (some (t,.d (.bool true)))=E.stp o r (s.put t (.d (.bool true))) ns (opE P.ti o.op o.dst (s.put t (.d (.bool true)))):=by rw [E.gd_eq,E.stp_eq];simp [xgd]
theorem qW (t:Nat):E.gd false o r s ns (some (t,.d (.bool false)))=E.stp o r (s.put t (.d (.bool false))) ns (opE P.ti o.op o.dst (s.put t (.d (.bool false)))):=by rw [E.gd_eq,E.stp_eq];simp [xgd]
theorem qI (t:Nat):E.gd false o r s ns (some (t,.d (.bool true)))=E.pt o.dst (.tup []) r ef0 (s.put t (.d (.bool true))) (ns++[([],[],[])]):=by rw [E.gd_eq,E.pt_eq];simp [xgd]
theorem pY (t:Nat):E.gd true o r s ns (some (t,.d (.bool false)))=E.pt o.dst (.tup []) r ef0 (s.put t (.d (.bool false))) (ns++[([],[],[])]):=by rw [E.gd_eq,E.pt_eq];simp [xgd]
variable {s o r ns}
theorem Ic (l:List Name):fpN (l,ef0)=(l,[],[]):=rfl
theorem H2 (l:List Name) (wr:List (Name × Option Ob)) (nu:List Nat):fpN (l,⟨wr,nu⟩)=(l,wr.map (·.1),nu):=rfl
attribute [go_sem] HH HL Em AO vc xK td sC sH ql qW qI pY Ic H2 rdO rdA dL iD dt bD List.cons_append List.nil_append
section
variable (tf:Nat→TI)
theorem BU (dd:Option Nat) (s:St) (x):opE tf (.move x) dd s=(opV tf (.move x) s).bind fun x=>.ok (x,ef0):=rfl
theorem uH (dd:Option Nat) (s:St) (x):opE tf (.assign x) dd s=(opV tf (.assign x) s).bind fun x=>.ok (x,ef0):=rfl
theorem Ch (dd:Option Nat) (s:St) (a b c):opE tf (.pick a b c) dd s=(opV tf (.pick a b c) s).bind fun x=>.ok (x,ef0):=rfl
theorem yz (dd:Option Nat) (s:St) (a b):opE tf (.build a b) dd s=(opV tf (.build a b) s).bind fun x=>.ok (x,ef0):=rfl
theorem Ai (dd:Option Nat) (s:St) (a b):opE tf (.load a b) dd s=(opV tf (.load a b) s).bind fun x=>.ok (x,ef0):=rfl
theorem ow (dd:Option Nat) (s:St) (a b c):opE tf (.fieldAddr a b c) dd s=(opV tf (.fieldAddr a b c) s).bind fun x=>.ok (x,ef0):=rfl
theorem yM (dd:Option Nat) (s:St) (a b c):opE tf (.field a b c) dd s=(opV tf (.field a b c) s).bind fun x=>.ok (x,ef0):=rfl
theorem oh (dd:Option Nat) (s:St) (a b c):opE tf (.indexAddr a b c) dd s=(opV tf (.indexAddr a b c) s).bind fun x=>.ok (x,ef0):=rfl
theorem yB (dd:Option Nat) (s:St) (a b c):opE tf (.index a b c) dd s=(opV tf (.index a b c) s).bind fun x=>.ok (x,ef0):=rfl
theorem xY (dd:Option Nat) (s:St) (a b c d e):opE tf (.slice a b c d e) dd s=(opV tf (.slice a b c d e) s).bind fun x=>.ok (x,ef0):=rfl
theorem yn (dd:Option Nat) (s:St) (a b c d e):opE tf (.binOp a b c d e) dd s=(opV tf (.binOp a b c d e) s).bind fun x=>.ok (x,ef0):=rfl
theorem yZ (dd:Option Nat) (s:St) (a b c):opE tf (.unOp a b c) dd s=(opV tf (.unOp a b c) s).bind fun x=>.ok (x,ef0):=rfl
theorem uc (dd:Option Nat) (s:St) (a b c):opE tf (.convert a b c) dd s=(opV tf (.convert a b c) s).bind fun x=>.ok (x,ef0):=rfl
theorem sv (dd:Option Nat) (s:St) (a b):opE tf (.extract a b) dd s=(opV tf (.extract a b) s).bind fun x=>.ok (x,ef0):=rfl
theorem qk (dd:Option Nat) (s:St) (a b c):opE tf (.makeFunc a b c) dd s=(opV tf (.makeFunc a b c) s).bind fun x=>.ok (x,ef0):=rfl
theorem uQ (dd:Option Nat) (s:St) (x a t):opE tf (.call { callee:=.value x,args:=a,argTypes:=t }) dd s=.no:=rfl
theorem um (dd:Option Nat) (s:St) (f) (x t):opE tf (.call { callee:=.builtin f,args:=#[x],argTypes:=#[t] }) dd s=(opV tf (.call { callee:=.builtin f,args:=#[x],argTypes:=#[t] }) s).bind fun x=>.ok (x,ef0):=by
 refine dZ ?_
 cases f<;>rfl
theorem uI (dd:Option Nat) (s:St) (x y t t'):opE tf (.call { callee:=.builtin .append,args:=#[x,y],argTypes:=#[t,t'] }) dd s=if t≠t' then .no else match (tf t).k with
 | .slice e=>if (tf e).zOk∧(tf e).isW (tf e).w then dt (tf e) dd s (ev s x) (ev s y) else .no
 | _=>.no:=rfl
theorem uS (dd:Option Nat) (s:St) (a b c d):opE tf (.lookup a b c d) dd s=.no:=rfl
theorem yK (dd:Option Nat) (s:St) (t x v):opE tf (.store t x v) dd s=(dL (tf t) s (ev s x) (ev s v)).bind fun q=>.ok (.un,⟨[(q.1,some q.2)],[]⟩):=rfl
theorem yj (dd:Option Nat) (s:St) (e):opE tf (.alloc e) dd s=match (tf e).z with
 | some cs=>iD dd s [] (.boxT (yd tf e) (cs.map .d)) (.bx · 0)
 | none=>.no:=rfl
theorem nw (dd:Option Nat) (s:St) (t l parts):opE tf (.buildSlice t l parts) dd s=match mz (tf t).k,fO 0 (parts.toList.map fun q=>(q.1,ev s q.2)) with
 | some e,some xs=>if xs.length=l∧(tf e).z.isSome∧(tf e).isW (tf e).w∧xs.all (nT (tf e).w)∧l*(tf e).sz≤16777216 then iD dd s [] (.arr (tf e).w xs) (.vw · 0 l) else .no
 | _,_=>.no:=rfl
attribute [go_sem] BU uH Ch yz Ai ow yM oh yB xY yn yZ uc sv qk uQ um uI yj nw uS yK
end
theorem E8 {c:Bool} {t:Nat} {want:Bool} (h1:c=true→E.gd want o r (s.put t (.d (.bool true))) ns (some (t,.d (.bool true)))) (h2:c=false→E.gd want o r (s.put t (.d (.bool false))) ns (some (t,.d (.bool false)))):E.gd want o r s ns (some (t,.d (.bool c))):=by
 cases c
 ·have:=h2 rfl
  cases want
  ·rw [qW,lK] at this;rw [qW];exact this
  ·rw [pY,lK] at this;rw [pY];exact this
 ·have:=h1 rfl
  cases want
  ·rw [qI,lK] at this;rw [qI];exact this
  ·rw [ql,lK] at this;rw [ql];exact this
theorem CH {p:Prop} [Decidable p] {t:Nat} {want:Bool} (h1:p→E.gd want o r (s.put t (.d (.bool true))) ns (some (t,.d (.bool true)))) (h2:¬ p→E.gd want o r (s.put t (.d (.bool false))) ns (some (t,.d (.bool false)))):E.gd want o r s ns (some (t,.d (.bool (decide p)))) :=
 E8 E (fun h=>h1 (of_decide_eq_true h)) (fun h=>h2 (of_decide_eq_false h))
theorem vV (s:St) (d:Option Nat) (x:AV):s.go d x ef0=s.ja d x:=by rw [Aq];cases d<;>rfl
theorem ky {d:Option Nat} {op:Op} {ty:TypeId} {pos:String} {af:Array Edge} {g:Option (Nat × Bool)} {x:AV} (rd:List Name) (hdst:∀ t∈d,t<cf.n)
  (hok:∀ s',(∀ p∈rd,s'.hp p=s.hp p)→(∀ y∈op.operands,ev s' y=ev s y)→AOk P cf { dst:=d,op:=op,type:=ty,pos:=pos,after:=af,guard:=g } s' [] (fun _ s2=>s2=s'.ja d x)) (hk:E.run r (s.ja d x) (ns++[(rd,[],[])])) :
  E.stp { dst:=d,op:=op,type:=ty,pos:=pos,after:=af,guard:=g } r s ns .no:=by
 rw [E.stp_eq]
 refine ⟨x,(rd,ef0),fun s' _ hh he B hB ds' β a w hds hs Q'=>?_,fun y hy=>(by cases hy),?_,?_⟩
 ·refine Oper.wpIn_mono ?_ (hok s' hh he B hB ds' β a w hds hs Q')
  rintro a' w' ⟨hd',s2,β',hrun,hs2⟩
  obtain ⟨_,s3,β3,rfl,hs3⟩:=hrun B hB ds' β' a' w' hd' hs2
  exact ⟨hd',β3,by rw [vV];exact hs3⟩
 ·cases d with
  | none=>trivial
  | some t=>exact hdst t rfl
 ·rw [← E.run_eq,vV];exact hk
theorem bp {dst:Option Nat} {fv:Operand} {args:Array Operand} {at':Array TypeId} {ty:TypeId} {pos:String} {af:Array Edge} {g:Option (Nat × Bool)}
  {f:FuncId} {caps:List AV} {ds:List D} {x:AV} (hc:HP P cf.G f ds (fun r=>r=x))
  (hev:ev s fv=.clo f caps) (hargs:args.toList.map (ev s)++caps=ds.map .d) (hdst:∀ t∈dst,t<cf.n) (hk:E.run r (s.ja dst x) (ns++[([],[],[])])) :
  E.stp { dst:=dst,op:=.call { callee:=.value fv,args:=args,argTypes:=at' },type:=ty,pos:=pos,after:=af,guard:=g } r s ns .no:=by
 refine ky E [] hdst (fun s' _ he=>?_) hk
 have hm:∀ y,y=fv∨y∈args→ev s' y=ev s y:=fun y hy=>he y (by
  simp only [Op.operands,Call.operands]
  rcases hy with rfl | hy<;>simp_all)
 exact js (k:=[]) (Q:=fun _ s2=>s2=s'.ja dst x) hc ((hm fv (.inl rfl)).trans hev)
  (by rw [uy (s:=s) (s':=s') fun y hy=>hm y (.inr (by simpa using hy))];exact hargs) hdst (fun r hr=>by subst hr;rw [cF])
theorem ak {id:Nat} {l:List Oper} {s:St} {k:List It} {Q:Exit→St→Prop} (hm:P.follows .mixedOrders=true) (E0:Eng P cf Q) (h:∀ E:XEng P cf l.toArray (fun s' ns=>chk l.toArray ns=true∧E0.run k s'),E.run l s []) :
  er E0 (.region id l.toArray true) s k:=by
 refine Bc hm ?_
 have e:(fun s' ns=>chk l.toArray ns=true∧E0.run k s')=fun s' ns=>chk l.toArray ns=true∧run P cf k Q s':=by funext s' ns;rw [E0.run_eq]
 obtain ⟨E⟩:=vv P cf l.toArray (fun s' ns=>chk l.toArray ns=true∧E0.run k s')
 have:=h E
 rw [E.run_eq,e] at this
 exact this
end
section
variable {P:Program} {cf:Cf} {Q:Exit→St→Prop} {s:St} {k:List It} {c:Code}
theorem aC (E:Eng P cf Q) {X:Type} (I:X→List (Nat × AV)) (O:X→List (Name × Ob)) (u:List Nat) (μ:X→Nat) (x0:X) (τ0:Name→Name) (h0:LeL cf.U τ0 s (I x0) (O x0) u)
  (hr:∀ x,∀ E':Eng P cf (lqE E (fun s'=>∃ y,μ y<μ x∧∃ τ,LeL cf.U τ s' (I y) (O y) u) k),E'.run [.code c] (mk (I x) (O x) u)):er E (.loop c) s k:=by
 have:=nS (P:=P) (cf:=cf) (c:=c) (s:=s) (k:=k) (Q:=Q) (fun x=>mk (I x) (O x) u) μ (fun x s'=>∃ y,μ y<μ x∧∃ τ,LeL cf.U τ s' (I y) (O y) u) ⟨x0,τ0,h0.le⟩ (fun _ _ ⟨y,hy,τ,h⟩=>⟨y,hy,τ,h.le⟩) (fun x=>by rw [← vu E];exact veil (hr x))
 exact this
theorem zW (q:Name × Name) (l:List (Name × Name)) (p:Name):tau (q::l) p=if p=q.1 then q.2 else tau l p:=by
 unfold tau
 rw [lkA]
theorem Ev (p:Name):tau [] p=p:=rfl
attribute [go_sem] zW Ev forall_eq forall_eq_or_imp
end
end Go.Ab

namespace Go.Proofs.YtejpnabbmgpmaaaGreatDoor
open Go.Ab
variable {t:TypeId} {fz:Nat × Nat}
def smZ (n:Int):Bool:=(decide (97≤n) && decide (n≤122)) || decide (n=95)
def grZ (n:Int):Bool:=decide (65≤n) && decide (n≤90)
def diZ (n:Int):Bool:=decide (48≤n) && decide (n≤57)
def sm (c:UInt8):Bool:=smZ c.toNat
def gr (c:UInt8):Bool:=grZ c.toNat
def mo (c:UInt8):Bool:=sm c || gr c || diZ c.toNat
def u8 (c:UInt8):D:=.int .u8 (c.toNat:Nat)
theorem vk {G} (c:UInt8):HP Tryz.prog G 88 [u8 c] (fun r=>r=.d (.bool (sm c))):=by
 refine aj Tryz.func88 rfl (by decide +kernel) (by simp [Tryz.ntmps88]) (veil fun E=>?_)
 unfold u8
 simp only [go_sem]
 refine ar E (fun h1=>?_) (fun h1=>?_)<;>simp only [go_sem]
 ·refine ar E (fun h2=>?_) (fun h2=>?_)<;>simp only [go_sem]
  ·simp [sm,smZ,h1,h2]
  ·simp [sm,smZ,h1,h2]
 ·simp [sm,smZ,h1]
theorem pU {G} (c:UInt8):HP Tryz.prog G 122 [u8 c] (fun r=>r=.d (.bool (gr c))):=by
 refine aj Tryz.func122 rfl (by decide +kernel) (by simp [Tryz.ntmps122]) (veil fun E=>?_)
 unfold u8
 simp only [go_sem]
 refine ar E (fun h1=>?_) (fun h1=>?_)<;>simp only [go_sem]
 ·simp [gr,grZ,h1]
 ·simp [gr,grZ,h1]
theorem wY {G} (c:UInt8):HP Tryz.prog G 149 [u8 c] (fun r=>r=.d (.bool (mo c))):=by
 refine aj Tryz.func149 rfl (by decide +kernel) (by simp [Tryz.ntmps149]) (veil fun E=>?_)
 unfold u8
 simp only [go_sem]
 refine ab E (vk c) rfl rfl (by simp) ?_
 rintro _ rfl
 simp only [go_sem]
 refine bz E (fun h1=>?_) (fun h1=>?_)<;>simp only [go_sem]
 ·simp [mo,h1]
 refine ab E (pU c) rfl rfl (by simp) ?_
 rintro _ rfl
 simp only [go_sem]
 refine bz E (fun h2=>?_) (fun h2=>?_)<;>simp only [go_sem]
 ·simp [mo,h2]
 refine ar E (fun h3=>?_) (fun h3=>?_)<;>simp only [go_sem]
 ·simp [mo,h1,h2,diZ,h3]
 ·simp [mo,h1,h2,diZ,h3]
def wlen:List UInt8→Nat
 | []=>0
 | c::r=>if mo c then wlen r+1 else 0
def bm (l:List UInt8):Nat:=match l with
 | []=>0
 | c::r=>if sm c || gr c then wlen r+1 else 0
theorem iu {l:List UInt8} {i:Nat} (h:i<l.length):wlen (l.drop i)=if mo (l.getD i 0) then wlen (l.drop (i+1))+1 else 0:=by
 have e:l.getD i 0=l[i]:=by simp [h]
 rw [List.drop_eq_getElem_cons h,wlen,e]
theorem jP {l:List UInt8}:wlen (l.drop l.length)=0:=by rw [List.drop_length];rfl
theorem vB:∀ l:List UInt8,wlen l≤l.length
 | []=>Nat.le_refl _
 | c::r=>by
   unfold wlen
   have:=vB r
   split<;>simp<;>omega
theorem ct {l:List UInt8} (h:1≤l.length):bm l=if sm (l.getD 0 0) || gr (l.getD 0 0) then wlen (l.drop 1)+1 else 0:=by
 cases l with
 | nil=>simp at h
 | cons c r=>rfl
theorem qm {G} (l:List UInt8) (hl:l.length≤9223372036854775807):HP Tryz.prog G 123 [.str l] (fun r=>r=.d (i64 (bm l))):=by
 refine aj Tryz.func123 rfl (by decide +kernel) (by simp [Tryz.ntmps123]) (veil fun E=>?_)
 simp only [go_sem]
 refine bz E (fun h0=>?_) (fun h0=>?_)<;>simp only [go_sem]
 ·have:l=[]:=by simpa using h0
  subst this;rfl
 have h0:1≤l.length:=by
  cases l with
  | nil=>simp at h0
  | cons c r=>simp
 refine ⟨by omega,?_⟩
 refine ab E (vk (l.getD 0 0)) rfl rfl (by simp) ?_
 rintro _ rfl
 simp only [go_sem]
 refine bz E (fun h1=>?_) (fun h1=>?_)<;>simp only [go_sem]
 ·have h1:sm (l.getD 0 0)=false:=by simpa using h1
  refine ⟨by omega,?_⟩
  refine ab E (pU (l.getD 0 0)) rfl rfl (by simp) ?_
  rintro _ rfl
  simp only [go_sem]
  refine aG E (fun h2=>?_) (fun h2=>?_)<;>simp only [go_sem]
  ·have h2:gr (l.getD 0 0)=false:=by simpa using h2
   rw [ct h0,h1,h2];rfl
  ·have h2:gr (l.getD 0 0)=true:=by simpa using h2
   have hsg:(sm (l.getD 0 0) || gr (l.getD 0 0))=true:=by rw [h2,Bool.or_true]
   refine dp E (X:={ i:Nat // i≤l.length∧i+wlen (l.drop i)=wlen (l.drop 1)+1 }) (fun x=>[(0,.d (.str l)),(3,.d (i64 x.1))]) (fun x=>l.length-x.1) rfl ⟨1,h0,by omega⟩ ?_ ?_
   ·simp only [go_sem]
    all_goals rfl
   rintro ⟨i,hi,hw⟩ E'
   simp only [go_sem]
   have hn:bm l=wlen (l.drop 1)+1:=by rw [ct h0,hsg,if_pos rfl]
   refine ar E' (fun h3=>?_) (fun h3=>?_)<;>simp only [go_sem]
   ·have hi':i<l.length:=by omega
    have hwd:=iu hi'
    refine ⟨⟨by omega,by omega⟩,?_⟩
    refine ab E' (wY (l.getD i 0)) rfl rfl (by simp) ?_
    rintro _ rfl
    simp only [go_sem]
    refine aG E' (fun h4=>?_) (fun h4=>?_)<;>simp only [go_sem]
    ·rw [h4,if_pos rfl] at hwd
     refine ⟨⟨i+1,by omega,by omega⟩,by show l.length-(i+1)<_;omega,?_⟩
     rw [ai ⟨by omega,by omega⟩];rfl
    ·rw [h4,if_neg (by simp)] at hwd
     rw [hn]
     exact congrArg (fun n:Nat=>AV.d (i64 (n:Int))) (by omega)
   ·have hil:i=l.length:=by omega
    subst hil
    rw [jP] at hw
    rw [hn]
    exact congrArg (fun n:Nat=>AV.d (i64 (n:Int))) (by omega)
 ·have h1:sm (l.getD 0 0)=true:=by simpa using h1
  have hsg:(sm (l.getD 0 0) || gr (l.getD 0 0))=true:=by rw [h1,Bool.true_or]
  refine dp E (X:={ i:Nat // i≤l.length∧i+wlen (l.drop i)=wlen (l.drop 1)+1 }) (fun x=>[(0,.d (.str l)),(3,.d (i64 x.1))]) (fun x=>l.length-x.1) rfl ⟨1,h0,by omega⟩ ?_ ?_
  ·simp only [go_sem]
   all_goals rfl
  rintro ⟨i,hi,hw⟩ E'
  simp only [go_sem]
  have hn:bm l=wlen (l.drop 1)+1:=by rw [ct h0,hsg,if_pos rfl]
  refine ar E' (fun h3=>?_) (fun h3=>?_)<;>simp only [go_sem]
  ·have hi':i<l.length:=by omega
   have hwd:=iu hi'
   refine ⟨⟨by omega,by omega⟩,?_⟩
   refine ab E' (wY (l.getD i 0)) rfl rfl (by simp) ?_
   rintro _ rfl
   simp only [go_sem]
   refine aG E' (fun h4=>?_) (fun h4=>?_)<;>simp only [go_sem]
   ·rw [h4,if_pos rfl] at hwd
    refine ⟨⟨i+1,by omega,by omega⟩,by show l.length-(i+1)<_;omega,?_⟩
    rw [ai ⟨by omega,by omega⟩];rfl
   ·rw [h4,if_neg (by simp)] at hwd
    rw [hn]
    exact congrArg (fun n:Nat=>AV.d (i64 (n:Int))) (by omega)
  ·have hil:i=l.length:=by omega
   subst hil
   rw [jP] at hw
   rw [hn]
   exact congrArg (fun n:Nat=>AV.d (i64 (n:Int))) (by omega)
end Go.Proofs.YtejpnabbmgpmaaaGreatDoor

namespace Go.Proofs.YtejpnabbmgpmaaaGreatDoor
open Go.Ab
variable {t:TypeId} {fz:Nat × Nat}
theorem mixed:Tryz.prog.follows .mixedOrders=true:=by kernel_rfl
def kwB:List (List UInt8):=[[102,117,110],[108,101,116],[114,101,99],[105,110],[105,102],[116,104,101,110],[101,108,115,101],[99,97,115,101],[111,102],[101,110,100],[116,114,117,101],[102,97,108,115,101],[99,104,101,99,107],[97,115,107],[116,111,112],[98,111,116],[105,110,116],[98,111,111,108],[115,116,114,105,110,103],[109,117]]
def strs (l:List (List UInt8)):D:=.sl none (l.map .str)
theorem DO {G}:HP Tryz.prog G 125 [] (fun r=>r=.d (strs kwB)):=by
 refine aL Tryz.func125 rfl (by decide +kernel) (by simp [Tryz.ntmps125]) (veil fun E=>?_)
 simp only [go_sem]
 refine ⟨[([1],none,kwB.map .str)],?_⟩
 simp only [go_sem]
 refine ⟨rfl,?_⟩
 rfl
theorem fe {l:List (List UInt8)} {i:Nat} (h:i<l.length):(l.map D.str).getD i .nilp=.str (l.getD i []):=by
 simp [h]
theorem s8 {l:List (List UInt8)} {i:Nat} {s:List UInt8} (hi:i<l.length) (h:s ∉ l.take i) (h2:l.getD i []≠s):s ∉ l.take (i+1):=by
 rw [List.take_succ_eq_append_getElem hi]
 simp only [List.mem_append,List.mem_singleton,not_or]
 refine ⟨h,fun e=>h2 ?_⟩
 simp [hi,e]
theorem DA {G} (l:List (List UInt8)) (s:List UInt8) (hl:l.length≤9223372036854775807):HP Tryz.prog G 150 [strs l,.str s] (fun r=>∃ n,r=.d (i64 n)∧(0≤n↔s∈l)):=by
 refine aj Tryz.func150 rfl (by decide +kernel) (by simp [Tryz.ntmps150]) (veil fun E=>?_)
 unfold strs
 simp only [go_sem]
 refine dp E (X:={ i:Nat // i≤l.length∧s ∉ l.take i }) (fun x=>[(0,.d (.sl none (l.map .str))),(1,.d (.str s)),(7,.d (i64 l.length)),(8,.d (i64 x.1))]) (fun x=>l.length-x.1) rfl ⟨0,by simp,by simp⟩ ?_ ?_
 ·simp only [go_sem]
  all_goals rfl
 rintro ⟨i,hi,hm⟩ E'
 simp only [go_sem]
 refine ah E' (fun h6=>?_) (fun h6=>?_)<;>simp only [go_sem]
 ·have hi':i<l.length:=by omega
  refine ⟨⟨by omega,by omega⟩,?_⟩
  rw [fe hi']
  simp only [go_sem]
  refine aG E' (fun h7=>?_) (fun h7=>?_)<;>simp only [go_sem]
  ·have h7:s=l.getD i []:=by simpa using h7
   have:s∈l:=by
    rw [h7]
    simp [hi']
   exact ⟨_,rfl,fun _=>this,fun _=>by omega⟩
  ·have h7:l.getD i []≠s:=by
    intro e
    rw [e] at h7
    simp at h7
   refine ⟨⟨i+1,by omega,s8 hi' hm h7⟩,by show l.length-(i+1)<_;omega,?_⟩
   rw [ai ⟨by omega,by omega⟩];rfl
 ·have hil:i=l.length:=by omega
  subst hil
  rw [List.take_length] at hm
  exact ⟨-1,rfl,fun h=>absurd h (by decide),fun h=>absurd h hm⟩
theorem ER {G} (l:List (List UInt8)) (s:List UInt8) (hl:l.length≤9223372036854775807):HP Tryz.prog G 124 [strs l,.str s] (fun r=>r=.d (.bool (decide (s∈l)))):=by
 refine aj Tryz.func124 rfl (by decide +kernel) (by simp [Tryz.ntmps124]) (veil fun E=>?_)
 simp only [go_sem]
 refine ab E (DA l s hl) rfl rfl (by simp) ?_
 rintro _ ⟨n,rfl,hn⟩
 simp only [go_sem]
 have:decide (0≤n)=decide (s∈l):=by rw [Bool.eq_iff_iff];simpa using hn
 rw [this]
def Av (s:List UInt8):Bool:=decide (s∈kwB)
theorem E1:kwB.length≤9223372036854775807:=by decide
theorem zp {G} (s:List UInt8):HP Tryz.prog G 89 [.str s] (fun r=>r=.d (.bool (Av s))):=by
 refine aj Tryz.func89 rfl (by decide +kernel) (by simp [Tryz.ntmps89]) (veil fun E=>?_)
 simp only [go_sem]
 refine ab E DO rfl rfl (by simp) ?_
 rintro _ rfl
 simp only [go_sem]
 refine ab E (ER kwB s E1) rfl rfl (by simp) ?_
 rintro _ rfl
 simp only [go_sem]
 rfl
def aS (s:List UInt8):Bool:=!s.isEmpty && decide (s.length≤20) && decide (bm s=s.length)
def aM (s:List UInt8):Bool:=aS s && sm (s.getD 0 0) && !Av s
def dY (s:List UInt8):Bool:=aS s && gr (s.getD 0 0)
theorem CN (a b:Nat):decide (((a:Nat):Int)=((b:Nat):Int))=decide (a=b):=by rw [Bool.eq_iff_iff];simp;omega
end Go.Proofs.YtejpnabbmgpmaaaGreatDoor

namespace Go.Proofs.YtejpnabbmgpmaaaGreatDoor
open Go.Ab
variable {t:TypeId} {fz:Nat × Nat}
theorem BI {G} (s:List UInt8) (hl:s.length≤9223372036854775807):HP Tryz.prog G 87 [.str s] (fun r=>r=.d (.bool (aS s))):=by
 refine aj Tryz.func87 rfl (by decide +kernel) (by simp [Tryz.ntmps87]) (veil fun E=>?_)
 simp only [go_sem]
 refine bz E (fun h0=>?_) (fun h0=>?_)<;>simp only [go_sem]
 ·refine ar E (fun h1=>?_) (fun h1=>?_)<;>simp only [go_sem]
  ·refine ab E (qm s hl) rfl rfl (by simp) ?_
   rintro _ rfl
   simp only [go_sem]
   have h0:s.isEmpty=false:=by simpa using h0
   simp only [aS,h0,CN]
   rw [decide_eq_true (p:=s.length≤20) (by omega)]
   rfl
  ·have:¬ s.length≤20:=by omega
   simp only [aS]
   rw [decide_eq_false this,Bool.and_false,Bool.false_and]
 ·have h0:s.isEmpty=true:=by simpa using h0
  simp only [aS,h0]
  rfl
theorem jx {s:List UInt8} (h:aS s=true):1≤s.length:=by
 cases s with
 | nil=>simp [aS] at h
 | cons c r=>simp
theorem qN {G} (s:List UInt8) (hl:s.length≤9223372036854775807):HP Tryz.prog G 45 [.str s] (fun r=>r=.d (.bool (aM s))):=by
 refine aj Tryz.func45 rfl (by decide +kernel) (by simp [Tryz.ntmps45]) (veil fun E=>?_)
 simp only [go_sem]
 refine ab E (BI s hl) rfl rfl (by simp) ?_
 rintro _ rfl
 simp only [go_sem]
 refine bz E (fun h1=>?_) (fun h1=>?_)<;>simp only [go_sem]
 ·have:=jx h1
  refine ⟨by omega,?_⟩
  refine ab E (vk (s.getD 0 0)) rfl rfl (by simp) ?_
  rintro _ rfl
  simp only [go_sem]
  refine bz E (fun h2=>?_) (fun h2=>?_)<;>simp only [go_sem]
  ·refine ab E (zp s) rfl rfl (by simp) ?_
   rintro _ rfl
   simp only [go_sem]
   simp only [aM,h1,h2,Bool.true_and]
  ·simp only [aM,h1,h2,Bool.true_and,Bool.false_and]
 ·simp only [aM,h1,Bool.false_and]
theorem vr {G} (s:List UInt8) (hl:s.length≤9223372036854775807):HP Tryz.prog G 86 [.str s] (fun r=>r=.d (.bool (dY s))):=by
 refine aj Tryz.func86 rfl (by decide +kernel) (by simp [Tryz.ntmps86]) (veil fun E=>?_)
 simp only [go_sem]
 refine ab E (BI s hl) rfl rfl (by simp) ?_
 rintro _ rfl
 simp only [go_sem]
 refine bz E (fun h1=>?_) (fun h1=>?_)<;>simp only [go_sem]
 ·have:=jx h1
  refine ⟨by omega,?_⟩
  refine ab E (pU (s.getD 0 0)) rfl rfl (by simp) ?_
  rintro _ rfl
  simp only [go_sem]
  simp only [dY,h1,Bool.true_and]
 ·simp only [dY,h1,Bool.false_and]
theorem F1 {α:Type} (k:Int) (hk:0≤k) (l:List α) [Decidable (k<(l.length:Int))]:List.take ((if k<(l.length:Int) then k else (l.length:Int)).toNat-0) l=l.take k.toNat:=by
 rw [Nat.sub_zero]
 split
 ·rfl
 ·rw [Int.toNat_natCast,List.take_length,List.take_of_length_le (by omega)]
theorem GF (k n:Int) [Decidable (k<n)] (hk:0≤k) (hn:0≤n):(0≤if k<n then k else n)∧(if k<n then k else n)≤n:=by
 split<;>omega
end Go.Proofs.YtejpnabbmgpmaaaGreatDoor

namespace Go.Proofs.YtejpnabbmgpmaaaGreatDoor
open Go.Ab
structure EF where
 nm:List UInt8
 var:List UInt8
 to:Int
structure EN where
 k:Int
 a:Int
 b:Int
 c:Int
 n:Int
 name:List UInt8
 s:List UInt8
 l:List EF
 pos:Int
def aY (k:Int):Nat:=if k=5∨k=12∨k=13 then 1 else if k=6∨k=7∨k=8∨k=10 then 2 else if k=9 then 3 else if k=14 then 1 else 0
def aJ (k:Int):Bool:=decide (k=11) || decide (k=14)
theorem cG (k:Int):aY k≤3:=by unfold aY;(repeat' split)<;>omega
def an (n:EN):List Int:=[n.a,n.b,n.c].take (aY n.k)++(if aJ n.k then n.l.map (·.to) else [])
def cj (n:EN):Nat:=aY n.k+(if aJ n.k then n.l.length else 0)
theorem dn (n:EN):(an n).length=cj n:=by
 have:=cG n.k
 unfold an cj
 split<;>simp<;>omega
def aU (ks:List Int) (o:Nat):List EF→Nat→List EF
 | [],_=>[]
 | f::r,i=>(if o+i<ks.length then { f with to:=ks.getD (o+i) 0 } else f)::aU ks o r (i+1)
def bg (n:EN) (ks:List Int):EN :=
 { n with a:=if 0<aY n.k then ks.getD 0 0 else 0,b:=if 1<aY n.k then ks.getD 1 0 else 0,c:=if 2<aY n.k then ks.getD 2 0 else 0,l:=if aJ n.k then aU ks (aY n.k) n.l 0 else [] }
theorem dh (ks:List Int) (o:Nat):∀ (l:List EF) (i:Nat),(aU ks o l i).length=l.length
 | [],_=>rfl
 | _::r,i=>by simp [aU,dh ks o r (i+1)]
theorem rQ (ks:List Int) (o:Nat):∀ (l:List EF) (i:Nat),o+i+l.length=ks.length→(aU ks o l i).map (·.to)=ks.drop (o+i)
 | [],i,h=>by
   have h:o+i=ks.length:=by simpa using h
   simp [aU,h]
 | f::r,i,h=>by
   simp only [List.length_cons] at h
   have hi:o+i<ks.length:=by omega
   rw [aU,if_pos hi,List.map_cons,rQ ks o r (i+1) (by omega),List.drop_eq_getElem_cons hi]
   simp [hi,Nat.add_assoc]
theorem mI (ks ks':List Int) (o:Nat):∀ (l:List EF) (i:Nat),o+i+l.length≤ks'.length→aU ks' o (aU ks o l i) i=aU ks' o l i
 | [],_,_=>rfl
 | f::r,i,h=>by
   simp only [List.length_cons] at h
   have hi:o+i<ks'.length:=by omega
   rw [aU,aU,aU,if_pos hi,if_pos hi,mI ks ks' o r (i+1) (by omega)]
   split<;>rfl
theorem lG (n:EN) (ks:List Int):(bg n ks).k=n.k:=rfl
theorem HJ:∀ (m:Nat) (ks:List Int),m≤3→m≤ks.length→[if 0<m then ks.getD 0 0 else 0,if 1<m then ks.getD 1 0 else 0,if 2<m then ks.getD 2 0 else 0].take m=ks.take m
 | 0,_,_,_=>by simp
 | 1,x::_,_,_=>by simp
 | 2,x::y::_,_,_=>by simp
 | 3,x::y::z::_,_,_=>by simp
 | 1,[],_,h=>by simp at h
 | 2,[],_,h=>by simp at h
 | 2,[_],_,h=>by simp at h
 | 3,[],_,h=>by simp at h
 | 3,[_],_,h=>by simp at h
 | 3,[_,_],_,h=>by simp at h
theorem ik {n:EN} {ks:List Int} (h:ks.length=cj n):an (bg n ks)=ks:=by
 have h3:=cG n.k
 unfold cj at h
 unfold an
 rw [lG]
 show [if 0<aY n.k then ks.getD 0 0 else 0,if 1<aY n.k then ks.getD 1 0 else 0,if 2<aY n.k then ks.getD 2 0 else 0].take (aY n.k)++(if aJ n.k then (if aJ n.k then aU ks (aY n.k) n.l 0 else []).map (·.to) else [])=ks
 rw [HJ _ _ h3 (by omega)]
 split
 ·rename_i hp
  rw [if_pos hp] at h
  rw [rQ _ _ _ _ (by omega)]
  exact List.take_append_drop _ _
 ·rename_i hp
  rw [if_neg hp] at h
  rw [List.append_nil,List.take_of_length_le (by omega)]
theorem oM {n:EN} {ks ks':List Int} (h:cj n≤ks'.length):bg (bg n ks) ks'=bg n ks':=by
 unfold cj at h
 show ({ n with a:=_,b:=_,c:=_,l:=if aJ n.k then aU ks' (aY n.k) (if aJ n.k then aU ks (aY n.k) n.l 0 else []) 0 else [] }:EN)={ n with a:=_,b:=_,c:=_,l:=if aJ n.k then aU ks' (aY n.k) n.l 0 else [] }
 by_cases hp:aJ n.k=true
 ·rw [if_pos hp] at h
  simp only [hp,if_true]
  rw [mI _ _ _ _ _ (by omega)]
  rfl
 ·simp only [hp]
  rfl
def aZ (off:Nat) (n:EN):EN:=bg n ((an n).map fun x:Int=>x+off)
theorem iP (off:Nat) (n:EN):an (aZ off n)=(an n).map fun x:Int=>x+off:=ik (by rw [List.length_map,dn])
theorem kT (p q:Nat) (n:EN):aZ p (aZ q n)=aZ (p+q) n:=by
 unfold aZ
 have:=iP q n
 unfold aZ at this
 rw [this,oM (by rw [List.length_map,List.length_map,dn];exact Nat.le_refl _),List.map_map]
 congr 1
 refine List.map_congr_left fun x _=>?_
 simp only [Function.comp]
 omega
def bO:List (List EN)→List EN→List Int→List EN × List Int
 | [],acc,rs=>(acc,rs)
 | l::r,acc,rs=>bO r (acc++l.map (aZ acc.length)) (rs++[((acc.length+l.length:Nat):Int)-1])
def aF (n:EN) (ls:List (List EN)):List EN:=(bO ls [] []).1++[bg n (bO ls [] []).2]
inductive Tr:List EN→Prop
 | join (n:EN) (ls:List (List EN)) (hw:cj n=ls.length) (h:∀ l∈ls,Tr l):Tr (aF n ls)
def ndE (ns:List EN) (i:Nat):EN:=ns.getD i ⟨0,0,0,0,0,[],[],[],0⟩
def qA (ns:List EN):Nat→Int→List Int
 | 0,_=>[]
 | m+1,i=>(an (ndE ns i.toNat)).flatMap (qA ns m)++[i]
end Go.Proofs.YtejpnabbmgpmaaaGreatDoor

namespace Go.Proofs.YtejpnabbmgpmaaaGreatDoor
open Go.Ab
theorem jf:∀ (ls:List (List EN)) (acc:List EN) (rs:List Int),∃ X Y,bO ls acc rs=(acc++X,rs++Y)∧Y.length=ls.length
 | [],acc,rs=>⟨[],[],by simp [bO],rfl⟩
 | l::r,acc,rs=>by
   obtain ⟨X,Y,e,h⟩:=jf r (acc++l.map (aZ acc.length)) (rs++[((acc.length+l.length:Nat):Int)-1])
   exact ⟨l.map (aZ acc.length)++X,(((acc.length+l.length:Nat):Int)-1)::Y,by rw [bO,e];simp,by simp [h]⟩
def Lies (M ns:List EN) (off:Nat):Prop:=∀ j,j<ns.length→ndE M (off+j)=aZ off (ndE ns j)
def E9 (l:List EN):Prop:=0<l.length∧∀ (M:List EN) (off m:Nat),Lies M l off→off+l.length≤m→qA M m (((off+l.length:Nat):Int)-1)=(List.range l.length).map fun j=>((off+j:Nat):Int)
theorem vT:∀ (ls:List (List EN)) (acc:List EN) (rs Y:List Int) (X:List EN),(∀ l∈ls,E9 l)→bO ls acc rs=(acc++X,rs++Y)→∀ (M:List EN) (off m:Nat),Lies M (acc++X) off→off+(acc++X).length≤m →
  (Y.map fun x:Int=>x+off).flatMap (qA M m)=(List.range X.length).map fun j=>((off+acc.length+j:Nat):Int)
 | [],acc,rs,Y,X,_,e,M,off,m,_,_=>by
   simp only [bO,Prod.mk.injEq] at e
   have h1:X=[]:=by have:=congrArg List.length e.1;simp at this;exact this
   have h2:Y=[]:=by have:=congrArg List.length e.2;simp at this;exact this
   subst h1;subst h2;simp
 | l::r,acc,rs,Y,X,hg,e,M,off,m,hM,hm=>by
   obtain ⟨X',Y',e',_⟩:=jf r (acc++l.map (aZ acc.length)) (rs++[((acc.length+l.length:Nat):Int)-1])
   rw [bO,e'] at e
   simp only [Prod.mk.injEq,List.append_assoc,List.append_cancel_left_eq] at e
   obtain ⟨rfl,rfl⟩:=e
   obtain ⟨h0,hl⟩:=hg l List.mem_cons_self
   have hlen:(acc++(l.map (aZ acc.length)++X')).length=acc.length+l.length+X'.length:=by simp [Nat.add_assoc]
   have ih:=vT r (acc++l.map (aZ acc.length)) (rs++[((acc.length+l.length:Nat):Int)-1]) Y' X' (fun x hx=>hg x (List.mem_cons_of_mem _ hx)) e' M off m (by rw [List.append_assoc];exact hM) (by rw [List.append_assoc];exact hm)
   have h1:qA M m ((((acc.length+l.length:Nat):Int)-1)+off)=(List.range l.length).map fun j=>((off+acc.length+j:Nat):Int):=by
    have:=hl M (off+acc.length) m (fun j hj=>?_) (by omega)
    ·rw [← this]
     congr 1
     omega
    ·have hj2:=hM (acc.length+j) (by rw [hlen];omega)
     rw [← Nat.add_assoc] at hj2
     rw [hj2]
     have:ndE (acc++(l.map (aZ acc.length)++X')) (acc.length+j)=aZ acc.length (ndE l j):=by
      unfold ndE
      rw [List.getD_eq_getElem?_getD,List.getElem?_append_right (by omega),List.getElem?_append_left (by simp;omega)]
      simp [hj]
     rw [this,kT]
   simp only [List.map_append,List.map_cons,List.map_nil,List.flatMap_append,List.flatMap_cons,List.flatMap_nil,List.append_nil,List.singleton_append]
   rw [h1,ih]
   simp only [List.length_append,List.length_map]
   rw [List.range_add,List.map_append,List.map_map]
   congr 1
   refine List.map_congr_left fun j _=>?_
   simp only [Function.comp]
   omega
theorem Tr.good {ns:List EN} (h:Tr ns):E9 ns:=by
 induction h with
 | join n ls hw _ ih =>
   obtain ⟨X,Y,e,hY⟩:=jf ls [] []
   have hj:aF n ls=X++[bg n Y]:=by unfold aF;rw [e];simp
   rw [hj]
   refine ⟨by simp,fun M off m hM hm=>?_⟩
   rw [List.length_append] at hm ⊢
   simp only [List.length_singleton] at hm ⊢
   have hroot:ndE M (off+X.length)=aZ off (bg n Y):=by
    have:=hM X.length (by simp)
    rw [this]
    congr 1
    simp [ndE]
   cases m with
   | zero=>omega
   | succ m =>
     have hi:(((off+(X.length+1):Nat):Int)-1).toNat=off+X.length:=by omega
     rw [qA,hi,hroot,iP,ik (by rw [hY,hw])]
     have:=vT ls [] [] Y X (fun l hl=>ih l hl) (by simpa using e) M off m (fun j hj=>?_) (by simp;omega)
     ·rw [this,List.range_succ,List.map_append]
      simp only [List.length_nil,Nat.add_zero,List.map_cons,List.map_nil]
      congr 2
      omega
     ·simp only [List.nil_append] at hj ⊢
      rw [hM j (by simp;omega)]
      congr 1
      simp [ndE,List.getElem?_append_left hj]
theorem uW {n:EN} {ks:List Int} (h:ks.length=cj n):aZ 0 (bg n ks)=bg n ks:=by
 unfold aZ
 rw [ik h,oM (by rw [List.length_map,h];exact Nat.le_refl _)]
 congr 1
 simp
theorem tM:∀ (ls:List (List EN)) (acc:List EN) (rs:List Int),(∀ x∈acc,aZ 0 x=x)→∀ x∈(bO ls acc rs).1,aZ 0 x=x
 | [],_,_,h=>h
 | l::r,acc,rs,h=>by
   refine tM r _ _ fun x hx=>?_
   rcases List.mem_append.1 hx with hx | hx
   ·exact h x hx
   ·obtain ⟨y,_,rfl⟩:=List.mem_map.1 hx
    rw [kT,Nat.zero_add]
theorem Tr.self {ns:List EN} (h:Tr ns):∀ x∈ns,aZ 0 x=x:=by
 cases h with
 | join n ls hw h =>
   intro x hx
   obtain ⟨X,Y,e,hY⟩:=jf ls [] []
   rcases List.mem_append.1 (show x∈(bO ls [] []).1++[bg n (bO ls [] []).2] from hx) with hx | hx
   ·exact tM ls [] [] (by simp) x hx
   ·rw [List.mem_singleton.1 hx,e]
    exact uW (by simpa using hY.trans hw.symm)
def Hh (ns:List EN) (i:Int):List EN :=
 let its:=qA ns (i.toNat+1) i
 its.map fun x=>bg (ndE ns x.toNat) ((an (ndE ns x.toNat)).map fun k=>(its.idxOf k:Int))
theorem tq (N:Nat):((List.range N).map fun j=>((0+j:Nat):Int)).Nodup:=List.Pairwise.map _ (fun a b hab e=>hab (by omega)) List.nodup_range
theorem sQ (N k:Nat) (h:k<N):((List.range N).map fun j=>((0+j:Nat):Int)).idxOf (k:Int)=k:=by
 have:=List.Nodup.idxOf_getElem (tq N) k (by simpa using h)
 simpa using this
def fH (b:Nat) (x:EN):Prop:=∀ k∈an x,0≤k∧k<(b:Int)
theorem fH.mono {b c:Nat} {x:EN} (h:fH b x) (hc:b≤c):fH c x:=fun k hk=>by have:=h k hk;omega
theorem ri:∀ (ls:List (List EN)) (acc:List EN) (rs:List Int),(∀ l∈ls,0<l.length∧∀ x∈l,fH l.length x)→(∀ x∈acc,fH acc.length x)→(∀ k∈rs,0≤k∧k<(acc.length:Int)) →
  (∀ x∈(bO ls acc rs).1,fH (bO ls acc rs).1.length x)∧∀ k∈(bO ls acc rs).2,0≤k∧k<((bO ls acc rs).1.length:Int)
 | [],_,_,_,h1,h2=>⟨h1,h2⟩
 | l::r,acc,rs,hl,h1,h2=>by
   obtain ⟨g1,g2⟩:=hl l List.mem_cons_self
   refine ri r _ _ (fun x hx=>hl x (List.mem_cons_of_mem _ hx)) (fun x hx=>?_) (fun k hk=>?_)
   ·rcases List.mem_append.1 hx with hx | hx
    ·exact (h1 x hx).mono (by simp)
    ·obtain ⟨y,hy,rfl⟩:=List.mem_map.1 hx
     intro k hk
     rw [iP] at hk
     obtain ⟨q,hq,rfl⟩:=List.mem_map.1 hk
     have:=g2 y hy q hq
     rw [List.length_append,List.length_map]
     omega
   ·rw [List.length_append,List.length_map]
    rcases List.mem_append.1 hk with hk | hk
    ·have:=h2 k hk;omega
    ·rw [List.mem_singleton.1 hk];omega
theorem Tr.kids {ns:List EN} (h:Tr ns):0<ns.length∧∀ x∈ns,fH ns.length x:=by
 induction h with
 | join n ls hw _ ih =>
   obtain ⟨h1,h2⟩:=ri ls [] [] ih (by simp) (by simp)
   have hl:(aF n ls).length=(bO ls [] []).1.length+1:=by simp [aF]
   refine ⟨by omega,fun x hx=>?_⟩
   rw [hl]
   rcases List.mem_append.1 (show x∈(bO ls [] []).1++[bg n (bO ls [] []).2] from hx) with hx | hx
   ·exact (h1 x hx).mono (by omega)
   ·rw [List.mem_singleton.1 hx]
    intro k hk
    obtain ⟨X,Y,e,hY⟩:=jf ls [] []
    rw [ik (by rw [e];simpa using hY.trans hw.symm)] at hk
    have:=h2 k hk
    omega
theorem Tr.norm {ns:List EN} (h:Tr ns):Hh ns ((ns.length:Int)-1)=ns:=by
 obtain ⟨h0,hk⟩:=h.kids
 have hself:∀ j,j<ns.length→ndE ns j∈ns:=fun j hj=>by
  have:ndE ns j=ns[j]:=by simp [ndE,hj]
  rw [this];exact List.getElem_mem hj
 have hb:qA ns (((ns.length:Int)-1).toNat+1) ((ns.length:Int)-1)=(List.range ns.length).map fun j=>((0+j:Nat):Int):=by
  have:=h.good.2 ns 0 (((ns.length:Int)-1).toNat+1) (fun j hj=>by rw [Nat.zero_add];exact (h.self _ (hself j hj)).symm) (by omega)
  rw [← this]
  congr 1
  omega
 unfold Hh
 simp only [hb,List.map_map]
 refine List.ext_getElem (by simp) fun j h1 h2=>?_
 have hx:ndE ns j=ns[j]:=by simp [ndE,h2]
 have hm:ns[j]∈ns:=List.getElem_mem h2
 simp only [List.getElem_map,List.getElem_range,Function.comp,Nat.zero_add,Int.toNat_natCast,hx]
 have hks:(an ns[j]).map (fun k=>(((List.range ns.length).map fun j=>((j:Nat):Int)).idxOf k:Int))=(an ns[j]).map fun x:Int=>x+(0:Nat):=by
  refine List.map_congr_left fun k hkk=>?_
  obtain ⟨g1,g2⟩:=hk _ hm k hkk
  have:=sQ ns.length k.toNat (by omega)
  simp only [Nat.zero_add,Int.toNat_of_nonneg g1] at this
  rw [this]
  omega
 rw [hks]
 exact h.self _ hm
end Go.Proofs.YtejpnabbmgpmaaaGreatDoor

namespace Go.Proofs.YtejpnabbmgpmaaaGreatDoor
open Go.Ab
def fD (f:EF):D:=.agg [.str f.nm,.str f.var,i64 f.to]
def efD (l:List EF):D:=.sl (some 3) (l.map fD)
def enD (n:EN):D:=.agg [i64 n.k,i64 n.a,i64 n.b,i64 n.c,i64 n.n,.str n.name,.str n.s,efD n.l,i64 n.pos]
def exD (ns:List EN):D:=.agg [.sl (some 9) (ns.map enD)]
theorem lO {G} (k:Int):HP Tryz.prog G 132 [i64 k] (fun r=>r=.d (.agg [i64 (aY k),.bool (aJ k)])):=by
 refine aj Tryz.func132 rfl (by decide +kernel) (by simp [Tryz.ntmps132]) (veil fun E=>?_)
 simp only [go_sem]
 repeat' (refine ah E (fun h=>?_) (fun h=>?_)<;>simp only [go_sem])
 all_goals first | (exfalso;omega) | (unfold aY aJ;simp_all)
end Go.Proofs.YtejpnabbmgpmaaaGreatDoor

namespace Go.Ab
def rv (f:Nat) (cs:List AV):AV :=
 match iF cs with
 | some ds=>.d (.clo f ds)
 | none=>.clo f cs
mutual
def AV.frB (p:Name) (d:D):AV→AV
 | .un=>.un
 | .d x=>.d x
 | .vw q o l=>.vw q o l
 | .bx q c=>if q=p∧c=0 then .d (.ptr d) else .bx q c
 | .el q i c=>.el q i c
 | .mp q=>.mp q
 | .it q=>.it q
 | .agg cs=>eS (kA p d cs)
 | .tup cs=>.tup (kA p d cs)
 | .clo f cs=>rv f (kA p d cs)
def kA (p:Name) (d:D):List AV→List AV
 | []=>[]
 | x::r=>x.frB p d::kA p d r
end
theorem dz (p:Name) (d:D):∀ l:List AV,(kA p d l).length=l.length
 | []=>rfl
 | _::r=>by simp [kA,dz p d r]
theorem gY (p:Name) (d:D):∀ (l:List AV) (i:Nat),(kA p d l)[i]?=(l[i]?).map (AV.frB p d)
 | [],i=>by simp [kA]
 | x::r,0=>by simp [kA]
 | x::r,i+1=>by simp [kA,gY p d r i]
section
variable {H:Array Obj} {own own':Nat→Prop} {used:List Nat} {hp hp':Name→Option Ob} {β:Name→Option Blk}
theorem ph {f:Nat} {vs:Array Value} {cs:List AV} (hs:vs.size=cs.length) (h:∀ i x,cs[i]?=some x→VR H own used hp β (vs.getD i undef) x):VR H own used hp β (.func (.func f) #[] vs) (rv f cs):=by
 unfold rv
 split
 ·rename_i ds hd
  have e:=kr hd
  subst e
  exact .d _ _ (.clo f vs ds (by simpa using hs) fun i d hi=>(h i (.d d) (by simp [hi])).toD)
 ·exact .clo f vs cs hs h
theorem VR.frB {p:Name} {d:D} (hr:∀ v d,Rep H own v d→Rep H own' v d) (hst:∀ q,nm used q→Stays hp hp' β β q) (hp0:hp p=some (.box (d.cells.map .d))) (hsc:∀ x∈d.cells,x.scal=true) (ho:OR H own used hp β p (.box (d.cells.map .d)))
  (hno:∀ k,β p=some k→¬ own' k.b) {v:Value} {x:AV} (h:VR H own used hp β v x):VR H own' used hp' β v (x.frB p d):=by
 induction h with
 | un v=>exact .un v
 | d v x h=>exact .d v x (hr v x h)
 | vw v q off len hn h1 h=>exact VR.mono hr (fun _ h=>h) hst (.vw v q off len hn h1 h)
 | bx v q c hn h1 h =>
   unfold AV.frB
   split
   ·rename_i e
    obtain ⟨rfl,rfl⟩:=e
    obtain ⟨k,hk,hk0,rfl⟩:=h _ _ hp0
    obtain ⟨k',cc,e,hk',_,hc,_,hl,_,hrep⟩:=ho
    rw [hk] at hk'
    cases hk'
    refine .d _ _ (.ptr k.b 0 cc e (0,0) d hc (hno k hk) (by simp at hl;omega) hsc fun j x hj=>?_)
    have:=(hrep j (.d x) (by simp [hj])).toD
    rw [Nat.zero_add]
    exact hr _ _ this
   ·exact VR.mono hr (fun _ h=>h) hst (.bx v q c hn h1 h)
 | el v q i c hn h1 h=>exact VR.mono hr (fun _ h=>h) hst (.el v q i c hn h1 h)
 | mp v q hn h1 h=>exact VR.mono hr (fun _ h=>h) hst (.mp v q hn h1 h)
 | its v q hn h1 h h'=>exact VR.mono hr (fun _ h=>h) hst (.its v q hn h1 h h')
 | agg vs cs hs hc _ ih =>
   have:=ef (H:=H) (own:=own') (used:=used) (hp:=hp') (β:=β) (vs:=vs.toList) (cs:=kA p d cs) (by rw [dz];simpa using hs) (by simpa using hc) (fun i v x hv hx=>by
    rw [gY,Option.map_eq_some_iff] at hx
    obtain ⟨y,hy,rfl⟩:=hx
    have:=ih i y hy
    have e:vs.getD i undef=v:=by
     simp only [Array.getElem?_toList] at hv
     simp [Array.getD_eq_getD_getElem?,hv]
    rw [e] at this
    exact this)
   simpa [AV.frB] using this
 | tup vs cs hs _ ih =>
   refine .tup vs _ (by rw [dz];exact hs) (fun i x hi=>?_)
   rw [gY,Option.map_eq_some_iff] at hi
   obtain ⟨y,hy,rfl⟩:=hi
   exact ih i y hy
 | clo f vs cs hs _ ih =>
   refine ph (by rw [dz];exact hs) (fun i x hi=>?_)
   rw [gY,Option.map_eq_some_iff] at hi
   obtain ⟨y,hy,rfl⟩:=hi
   exact ih i y hy
end
def Ob.frB (p:Name) (d:D):Ob→Ob
 | .boxT ty cs=>.boxT ty (kA p d cs)
 | o=>o
theorem Ob.AF (p:Name) (d:D) (o:Ob):o.like (o.frB p d):=by
 cases o<;>simp [Ob.frB,Ob.like]
def St.frB (s:St) (p:Name) (d:D):St:={ fr:=fun t=>(s.fr t).frB p d,hp:=fun q=>(au s.hp p none q).map (Ob.frB p d),used:=s.used }
theorem Sim.frB {B:Base} {β:Name→Option Blk} {s:St} {tm:Array Value} {w:World} (h:Sim B β s tm w) {p:Name} {d:D} (hp:s.hp p=some (.box (d.cells.map .d))) (hsc:∀ x∈d.cells,x.scal=true):Sim B β (s.frB p d) tm w:=by
 have hsub:∀ q o',(s.frB p d).hp q=some o'→q≠p∧∃ o,s.hp q=some o∧o'=o.frB p d:=by
  intro q o' ho
  by_cases e:q=p
  ·subst e;simp [St.frB,au] at ho
  ·simp only [St.frB,au,if_neg e,Option.map_eq_some_iff] at ho
   obtain ⟨o,h1,h2⟩:=ho
   exact ⟨e,o,h1,h2.symm⟩
 have hne:∀ q,(s.frB p d).hp q≠none→s.hp q≠none∧q≠p:=by
  intro q hq
  cases ho:(s.frB p d).hp q with
  | none=>exact absurd ho hq
  | some o' =>
    obtain ⟨e,o,h1,_⟩:=hsub q o' ho
    exact ⟨by rw [h1];simp,e⟩
 have hr:∀ v d',Rep w.heap (s.own B.A β) v d'→Rep w.heap ((s.frB p d).own B.A β) v d':=fun v d' hd=>hd.mono (fun _ _ _=>rfl) (by
  rintro b _ (hA | ⟨q,k,hq,hk,e⟩)
  ·exact .inl hA
  ·exact .inr ⟨q,k,(hne q hq).1,hk,e⟩)
 have hst:∀ q,nm s.used q→Stays s.hp (s.frB p d).hp β β q:=fun q _ o' ho'=>by
  obtain ⟨_,o,h1,rfl⟩:=hsub q o' ho'
  exact ⟨o,h1,Ob.AF p d o,rfl⟩
 have hno:∀ k,β p=some k→¬ (s.frB p d).own B.A β k.b:=by
  rintro k hk (hA | ⟨q,k',hq,hk',e⟩)
  ·exact (h.blocks p k (by rw [hp];simp) hk).2.1 hA
  ·exact (hne q hq).2 (h.inj q p k' k (hne q hq).1 (by rw [hp];simp) hk' hk e)
 have hvr:∀ {v:Value} {x:AV},VR w.heap (s.own B.A β) s.used s.hp β v x→VR w.heap ((s.frB p d).own B.A β) s.used (s.frB p d).hp β v (x.frB p d):=fun hv=>hv.frB hr hst hp hsc (h.objs p _ hp).2 hno
 refine { tms:=h.tms,io:=h.io,size:=h.size,frame:=h.frame,slots:=fun i=>hvr (h.slots i),objs:=fun q o' ho'=>?_,blocks:=fun q k hq hk=>h.blocks q k (hne q hq).1 hk,inj:=fun q q' k k' hq hq'=>h.inj q q' k k' (hne q hq).1 (hne q' hq').1,us:=h.us,stay:=h.stay }
 obtain ⟨_,o,h1,rfl⟩:=hsub q o' ho'
 obtain ⟨g1,g2⟩:=h.objs q o h1
 refine ⟨g1,?_⟩
 cases o with
 | boxT ty cs =>
   obtain ⟨k,c,e,a1,a2,a3,a4,a5,a6,a7⟩:=g2
   refine ⟨k,c,e,a1,a2,a3,a4,by rw [a5,dz],a6,fun j x hj=>?_⟩
   rw [gY,Option.map_eq_some_iff] at hj
   obtain ⟨y,hy,rfl⟩:=hj
   exact hvr (a7 j y hy)
 | _=>exact g2.mono hr (fun _ h=>h) hst rfl fun _ _=>rfl
section
variable {P:Program} {cf:Cf} {Q:Exit→St→Prop} {s:St} {k:List It}
theorem E6 (E:Eng P cf Q) {d:Option Nat} {op:Op} {ty:TypeId} {ps:String} {af:Array Edge} (p:Name) (x:D) (hp:s.hp p=some (.box (x.cells.map .d))) (hsc:(x.cells.all D.scal)=true) (h:E.stp { dst:=d,op:=op,type:=ty,pos:=ps,after:=af,guard:=none } (s.frB p x) k (opR P.ti cf.n op d (s.frB p x))) :
  E.stp { dst:=d,op:=op,type:=ty,pos:=ps,after:=af,guard:=none } s k .no:=by
 rw [aE]
 rw [E.stp_eq] at h
 have h1:=cZ (o:={ dst:=d,op:=op,type:=ty,pos:=ps,after:=af,guard:=none }) rfl h
 intro B hB ds β a w' hds hs Q'
 exact h1 B hB ds β a w' hds (hs.frB hp (List.all_eq_true.1 hsc)) Q'
theorem vI (p:Name) (d:D) (t:Nat):∀ l:List (Nat × AV),(lkA .un l t).frB p d=lkA .un (l.map fun q=>(q.1,q.2.frB p d)) t
 | []=>rfl
 | q::r=>by
   simp only [lkA,List.map_cons]
   split
   ·rfl
   ·exact vI p d t r
theorem sK (p:Name) (d:D) (q:Name):∀ l:List (Name × Ob),(lkA none (l.map fun x=>(x.1,some x.2)) q).map (Ob.frB p d)=lkA none ((l.map fun x=>(x.1,x.2.frB p d)).map fun x=>(x.1,some x.2)) q
 | []=>rfl
 | x::r=>by
   simp only [lkA,List.map_cons]
   split
   ·rfl
   ·exact sK p d q r
theorem B6 (fr:List (Nat × AV)) (hp:List (Name × Ob)) (u:List Nat) (p:Name) (d:D):(mk fr hp u).frB p d=mk (fr.map fun q=>(q.1,q.2.frB p d)) ((iE hp p).map fun q=>(q.1,q.2.frB p d)) u:=by
 unfold St.frB mk
 congr 1
 ·funext t
  exact vI p d t fr
 ·funext q
  rw [← sK,fN,gb]
  rfl
theorem pC {α β:Type} (f:α→β) (l:List α):(l.map f).take l.length=l.map f:=List.take_of_length_le (by simp)
attribute [go_sem] B6 AV.frB kA Ob.frB rv D.cells pC List.take_succ_cons List.take_zero List.take_nil
theorem lE (E:Eng P cf Q) {dst:Option Nat} {u:Nat} {args:Array Operand} {at':Array TypeId} {ty:TypeId} {pos:String} {af:Array Edge}
  {f:FuncId} {caps ds:List D} {Q0:AV→Prop} (hc:HP P cf.G f ds Q0)
  (hev:s.fr u=.d (.clo f caps)) (hargs:args.toList.map (ev (s.put u (.clo f (caps.map .d))))++caps.map .d=ds.map .d) (hdst:∀ t∈dst,t<cf.n) (hk:∀ r,Q0 r→E.run k ((s.put u (.clo f (caps.map .d))).ja dst r)) :
  E.stp { dst:=dst,op:=.call { callee:=.value (.tmp u),args:=args,argTypes:=at' },type:=ty,pos:=pos,after:=af,guard:=none } s k .no:=by
 rw [aE]
 have h1:AOk P cf { dst:=dst,op:=.call { callee:=.value (.tmp u),args:=args,argTypes:=at' },type:=ty,pos:=pos,after:=af,guard:=none } (s.put u (.clo f (caps.map .d))) k Q :=
  js hc (show de _ _ _ _=_ by simp [de]) hargs hdst fun r hr=>by rw [← E.run_eq];exact hk r hr
 intro B hB ds' β a w' hds hs Q'
 refine h1 B hB ds' β a w' hds (hs.setv ?_) Q'
 have hv:=hs.slots u
 rw [hev] at hv
 have hv:=hv.toD
 generalize a.tmps.getD u undef=v at hv
 cases hv with
 | clo _ vs _ hsz hrep =>
   refine .clo f vs _ (by simpa using hsz) fun i x hi=>?_
   rw [List.getElem?_map,Option.map_eq_some_iff] at hi
   obtain ⟨y,hy,rfl⟩:=hi
   exact .d _ _ (hrep i y hy)
theorem gB {op:BinOp} {t:TypeId} {x y:Operand} {yt:TypeId} {a:Act} {w:World} {d:Option Nat} {ty:TypeId} {ps:String} {af:Array Edge} {v:Value} (hg:(eqGuard op t x y (a.eval x) (a.eval y)).run P w=.ok () w) (hb:(binOp op t (a.eval x) (a.eval y)).run P w=.ok v w) :
  (execOp a.eval { dst:=d,op:=.binOp op t x y yt,type:=ty,pos:=ps,after:=af,guard:=none }).run P w=.ok (.value v) w:=by
 simp only [execOp,Sem.run_bind,hg,Result.andThen_ok,hb]
 rfl
theorem gl {t e:TypeId} (w:World) (hu:P.underlying t=some (.slice e)) (d:Nat) (ad:Option Addr) (n cap:Nat):(Op.equalIn (d+1) t (.slice ad n cap) (.slice none 0 0)).run P w=.ok ad.isNone w:=by
 cases ad<;>simp [Op.equalIn,run_underlying hu]
theorem ug {t e:TypeId} (w:World) (hu:P.underlying t=some (.slice e)) (ad:Option Addr) (n cap:Nat):(binOp .eql t (.slice ad n cap) (.slice none 0 0)).run P w=.ok (.bool ad.isNone) w:=by
 have h:(binOp .eql t (.slice ad n cap) (.slice none 0 0)).run P w=((Op.equalIn (9999+1) t (.slice ad n cap) (.slice none 0 0)).run P w).andThen fun b w'=>.ok (.bool b) w':=by
  simp only [binOp]
  simp [Op.equal,Op.maxDepth]
 rw [h,gl w hu];rfl
theorem tK {t e:TypeId} (w:World) (hu:P.underlying t=some (.slice e)) (ad:Option Addr) (n cap:Nat):(binOp .neq t (.slice ad n cap) (.slice none 0 0)).run P w=.ok (.bool (!ad.isNone)) w:=by
 have h:(binOp .neq t (.slice ad n cap) (.slice none 0 0)).run P w=((Op.equalIn (9999+1) t (.slice ad n cap) (.slice none 0 0)).run P w).andThen fun b w'=>.ok (.bool (!b)) w':=by
  simp only [binOp]
  simp [Op.equal,Op.maxDepth]
 rw [h,gl w hu];rfl
theorem BM (E:Eng P cf Q) {t e:TypeId} {x:Operand} {yt:TypeId} {dst:Nat} {ty:TypeId} {ps:String} {af:Array Edge} (neg:Bool) (hk:(P.ti t).k=.slice e) (hd:dst<cf.n) {w0:W} {xs:List D} (hx:ev s x=.d (.sl w0 xs))
  (h:∀ b:Bool,(b=true→xs=[])→E.run k (s.put dst (.d (.bool (if neg then !b else b))))) :
  E.stp { dst:=some dst,op:=.binOp (if neg then .neq else .eql) t x (.const (.slice none 0 0)) yt,type:=ty,pos:=ps,after:=af,guard:=none } s k .no:=by
 rw [aE]
 intro B hB ds β a w hds hs Q'
 have hv:=hs.ev x
 rw [hx] at hv
 have hv:=hv.toD
 have hu:=a8 hk
 have hrun:∃ b:Bool,(b=true→xs=[])∧(execOp a.eval { dst:=some dst,op:=.binOp (if neg then .neq else .eql) t x (.const (.slice none 0 0)) yt,type:=ty,pos:=ps,after:=af,guard:=none }).run P w=.ok (.value (.bool (if neg then !b else b))) w:=by
  have key:∀ ad n cap,a.eval x=.slice ad n cap→(execOp a.eval { dst:=some dst,op:=.binOp (if neg then .neq else .eql) t x (.const (.slice none 0 0)) yt,type:=ty,pos:=ps,after:=af,guard:=none }).run P w=.ok (.value (.bool (if neg then !ad.isNone else ad.isNone))) w:=by
   intro ad n cap hv
   refine gB ?_ ?_
   ·rw [hv];cases neg<;>rfl
   ·rw [hv]
    show (binOp _ t (.slice ad n cap) (.slice none 0 0)).run P w=_
    cases neg
    ·exact ug w hu ad n cap
    ·exact tK w hu ad n cap
  generalize hval:a.eval x=v at hv
  cases hv with
  | sl0 ad cap w=>exact ⟨ad.isNone,fun _=>rfl,key _ _ _ hval⟩
  | sl b o cap c e fz w xs=>exact ⟨false,fun h=>(by cases h),key _ _ _ hval⟩
 obtain ⟨b,hb,hrun⟩:=hrun
 have h1:=h b hb
 rw [E.run_eq] at h1
 exact aA (by simp) hrun (.inl rfl) ⟨hds,_,β,aP h1,hs.put (by rw [hB.1];exact hd) (.d _ _ (.bool _))⟩
end
end Go.Ab
namespace Go.Ab
section
variable {P:Program} {w:World} {H:Array Obj} {own:Nat→Prop}
end
section
variable {P:Program} {cf:Cf} {Q:Exit→St→Prop} {s:St} {k:List It}
end
end Go.Ab
namespace Go.Ab
section
variable {P:Program}
theorem ao {G:List (Nat × Obj)} {f:FuncId} {fn:Func} {c:Code} {args:List AV} {hp:List (Name × Ob)} {u:List Nat} {Q:AV→List (Name × Ob)→Prop} (hf:P.funcs[f]?=some fn) (hb:fn.body=some c)
  (hnm:(fn.name == "runtime.NumGoroutine")=false) (hn:args.length≤fn.ntmps) (h:run P ⟨fn.ntmps,none,G,u⟩ [.code c] (fq P fn.results.toList u Q) (mk (aB 0 args) hp u)):HCall P G f args hp u Q :=
 Bx hf hb (cC hf hb hnm) hn (fun _ _ h=>h) h
theorem FM (rs:List ResultVar) (u:List Nat) (Q:AV→List (Name × Ob)→Prop) (s:St):fq P rs u Q .ret s=RX (fg P s rs) fun l=>∃ r hp' u' τ,Q r hp'∧LeL u τ (mD s (bZ l)) [(0,r)] hp' u':=rfl
theorem yh (rs:List ResultVar) (u:List Nat) (Q:AV→List (Name × Ob)→Prop) (s:St):fq P rs u Q .normal s=RX (fg P s rs) fun l=>∃ r hp' u' τ,Q r hp'∧LeL u τ (mD s (bZ l)) [(0,r)] hp' u':=rfl
theorem DM (fr hp u) (x:AV):mD (mk fr hp u) x=mk [(0,x)] hp u:=by
 unfold mD mk
 congr 1
attribute [go_sem] FM yh DM
def Aa:List (Name × Ob)→List (Name × Ob)→List (Name × Ob)
 | [],hp=>hp
 | q::r,hp=>j9 (Aa r hp) q.1 q.2
def zE:List Name→List (Name × Ob)→List (Name × Ob)
 | [],hp=>hp
 | p::r,hp=>iE (zE r hp) p
theorem s9 (q:Name) (hp:List (Name × Ob)):∀ l:List (Name × Ob),lkA none ((Aa l hp).map fun x=>(x.1,some x.2)) q=lkA (lkA none (hp.map fun x=>(x.1,some x.2)) q) (l.map fun x=>(x.1,some x.2)) q
 | []=>rfl
 | x::r=>by
   rw [Aa,lu,ib,s9 q hp r,List.map_cons,dv]
theorem rP (q:Name) (hp:List (Name × Ob)):∀ l:List Name,lkA none ((zE l hp).map fun x=>(x.1,some x.2)) q=lkA (lkA none (hp.map fun x=>(x.1,some x.2)) q) (l.map fun x=>(x,(none:Option Ob))) q
 | []=>rfl
 | x::r=>by
   rw [zE,fN,gb,rP q hp r,List.map_cons,dv]
theorem GC (fr hp u) (σ:Name→Name) (d:Nat) (chp hp':List (Name × Ob)) (r:AV):aft (mk fr hp u) σ d chp hp' r=mk (j9 fr d (r.ren (dV σ d chp))) (Aa (hp'.map fun x=>(dV σ d chp x.1,x.2.ren (dV σ d chp))) (zE (chp.map fun x=>σ x.1) hp)) (d::u):=by
 unfold aft mk
 congr 1
 ·funext j
  rw [ib];rfl
 ·funext q
  simp only
  rw [s9,rP]
  simp only [List.map_map]
  rfl
attribute [go_sem] GC Aa zE dV dN gp Ob.like List.any_cons List.any_nil
end
section
variable {P:Program} {cf:Cf} {Q:Exit→St→Prop} {s:St} {k:List It}
theorem ae (E:Eng P cf Q) {d:Nat} {fv:Operand} {args:Array Operand} {at':Array TypeId} {ty:TypeId} {pos:String} {af:Array Edge}
  {f:FuncId} {caps:List AV} (cargs:List AV) (chp:List (Name × Ob)) (cu:List Nat) {Q0:AV→List (Name × Ob)→Prop} (hc:HCall P cf.G f cargs chp cu Q0)
  (hev:ev s fv=.clo f caps) (hargs:args.toList.map (ev s)++caps=cargs) (hd:d<cf.n∧d ∉ s.used) (hcu:dC cu cargs=true) (hpass:dN id cu s chp) (hinj:kI id chp)
  (hk:∀ r hp',Q0 r hp'→gp chp hp'∧E.run k (aft s id d chp hp' r)) :
  E.stp { dst:=some d,op:=.call { callee:=.value fv,args:=args,argTypes:=at' },type:=ty,pos:=pos,after:=af,guard:=none } s k .no:=by
 rw [aE]
 refine qd d id cargs chp cu Q0 hev ?_ hcu hd.2 (fun t ht=>?_) hpass hinj hc fun r hp' hr=>?_
 ·rw [hargs]
  have:∀ l:List AV,dM id l=l:=fun l=>by
   induction l with
   | nil=>rfl
   | cons x r ih=>rw [dM,ih,AV.dI id (fun _=>rfl)]
  exact (this _).symm
 ·obtain rfl:=Option.some.inj ht
  exact ⟨hd.1,rfl⟩
 ·obtain ⟨h1,h2⟩:=hk r hp' hr
  exact ⟨h1,by rw [← E.run_eq];exact h2⟩
section
variable {κ:Type} [DecidableEq κ] {ke:κ→D} {kv:κ→Value} {ops:Array Oper} {K:St→Ns→Prop} {r:List Oper} {ns:Ns}
end
end
end Go.Ab

namespace Go.Ab
def Wk (a b:D):Prop:=∀ (H:Array Obj) (own:Nat→Prop) (v:Value),Rep H own v a→Rep H own v b
theorem Wk.refl (a:D):Wk a a:=fun _ _ _ h=>h
theorem Wk.trans {a b c:D} (h:Wk a b) (g:Wk b c):Wk a c:=fun H own v x=>g H own v (h H own v x)
theorem Wk.nils (w:W):Wk .nils (.sl w []):=fun _ _ _ h=>by
 cases h
 exact .sl0 none 0 w
theorem Wk.agg {a0s bs:List D} (hl:a0s.length=bs.length) (hs:∀ b∈bs,b.scal=true) (h:∀ (i:Nat) a b,a0s[i]?=some a→bs[i]?=some b→Wk a b):Wk (.agg a0s) (.agg bs):=fun H own v x=>by
 cases x with
 | agg vs _ h1 _ h3 =>
   refine .agg vs bs (h1.trans hl) hs fun i b hb=>?_
   have:i<a0s.length:=by rw [hl];exact (List.getElem?_eq_some_iff.1 hb).1
   exact h i _ b (List.getElem?_eq_getElem this) hb H own _ (h3 i _ (List.getElem?_eq_getElem this))
theorem Wk.sl {w:W} {a0s bs:List D} (hl:a0s.length=bs.length) (hw:∀ b∈bs,okW w b) (h:∀ (i:Nat) a b,a0s[i]?=some a→bs[i]?=some b→a.cells.length=b.cells.length∧∀ (j:Nat) c d,a.cells[j]?=some c→b.cells[j]?=some d→Wk c d):Wk (.sl w a0s) (.sl w bs):=fun H own v x=>by
 cases x with
 | sl0 a cap _ =>
   have:bs=[]:=List.length_eq_zero_iff.1 hl.symm
   subst this
   exact .sl0 a cap w
 | sl b o cap c e fz _ _ hb hn hcap hz _ hr =>
   rw [hl]
   refine .sl b o cap c e fz w bs hb hn (by omega) (by rw [← hl];exact hz) hw fun i x j d hi hj=>?_
   have hlt:i<a0s.length:=by rw [hl];exact (List.getElem?_eq_some_iff.1 hi).1
   obtain ⟨g1,g2⟩:=h i _ x (List.getElem?_eq_getElem hlt) hi
   have hj2:j<(a0s[i]).cells.length:=by rw [g1];exact (List.getElem?_eq_some_iff.1 hj).1
   exact g2 j _ d (List.getElem?_eq_getElem hj2) hj H own _ (hr i _ j _ (List.getElem?_eq_getElem hlt) (List.getElem?_eq_getElem hj2))
def WkL:List D→List D→Prop
 | [],[]=>True
 | a::a0s,b::bs=>Wk a b∧WkL a0s bs
 | _,_=>False
theorem WkL.get:∀ {a0s bs:List D},WkL a0s bs→a0s.length=bs.length∧∀ (i:Nat) a b,a0s[i]?=some a→bs[i]?=some b→Wk a b
 | [],[],_=>⟨rfl,fun _ _ _ h=>by simp at h⟩
 | _::_,_::_,h=>by
   obtain ⟨g1,g2⟩:=WkL.get h.2
   refine ⟨by simp [g1],fun i a b ha hb=>?_⟩
   cases i with
   | zero=>simp at ha hb;subst ha;subst hb;exact h.1
   | succ i=>exact g2 i a b (by simpa using ha) (by simpa using hb)
 | [],_::_,h=>h.elim
 | _::_,[],h=>h.elim
theorem VR.wk {H:Array Obj} {own:Nat→Prop} {used:List Nat} {hp:Name→Option Ob} {β:Name→Option Blk} {v:Value} {a b:D} (h:Wk a b) (hv:VR H own used hp β v (.d a)):VR H own used hp β v (.d b) :=
 .d _ _ (h _ _ _ hv.toD)
section
variable {P:Program}
theorem Sim.CU {B:Base} {β:Name→Option Blk} {s s':St} {tm:Array Value} {w:World} (h:Sim B β s tm w) (h1:s'.hp=s.hp) (h2:s'.used=s.used) (h3:∀ t,s'.fr t=s.fr t∨∃ a b,s.fr t=.d a∧s'.fr t=.d b∧Wk a b):Sim B β s' tm w:=by
 obtain ⟨fr,hp,us⟩:=s
 obtain ⟨fr2,hp2,us2⟩:=s'
 simp only at h1 h2 h3
 subst h1;subst h2
 exact { tms:=h.tms,io:=h.io,size:=h.size,frame:=h.frame,slots:=fun t=>(by
  have:=h.slots t
  rcases h3 t with e | ⟨a,b,e1,e2,hw⟩
  ·show VR _ _ _ _ _ _ (fr2 t)
   rw [e];exact this
  ·show VR _ _ _ _ _ _ (fr2 t)
   rw [e2]
   have this:VR _ _ _ _ _ _ (fr t):=this
   rw [e1] at this
   exact this.wk hw),objs:=h.objs,blocks:=h.blocks,inj:=h.inj,us:=h.us,stay:=h.stay }
theorem HP.wk {G:List (Nat × Obj)} {f:FuncId} {a0s bs:List D} {Q:AV→Prop} (h:HP P G f bs Q) (hw:WkL a0s bs):HP P G f a0s Q:=by
 obtain ⟨g1,g2⟩:=hw.get
 refine ⟨h.1,fun B β vs w h1 h2 h3 h4 hs=>h.2 B β vs w (by rw [h1];simp [g1]) h2 h3 h4 (hs.CU rfl rfl fun t=>?_)⟩
 rw [cS,cS,aN,aN,if_pos (Nat.zero_le _),if_pos (Nat.zero_le _),Nat.sub_zero,List.getElem?_map,List.getElem?_map]
 by_cases ht:t<a0s.length
 ·have ht':t<bs.length:=by omega
  rw [List.getElem?_eq_getElem ht,List.getElem?_eq_getElem ht']
  exact .inr ⟨_,_,rfl,rfl,g2 t _ _ (List.getElem?_eq_getElem ht) (List.getElem?_eq_getElem ht')⟩
 ·rw [List.getElem?_eq_none (by omega),List.getElem?_eq_none (by omega)]
  exact .inl rfl
end
theorem Sim.rebox {B:Base} {β:Name→Option Blk} {s:St} {tm:Array Value} {w:World} (h:Sim B β s tm w) {p:Name} {ty:Option Nat} {cs cs':List AV} (hp:s.hp p=some (.boxT ty cs)) (hl:cs'.length=cs.length)
  (hv:∀ (v:Value) (j:Nat) x x',cs[j]?=some x→cs'[j]?=some x'→VR w.heap (s.own B.A β) s.used s.hp β v x→VR w.heap (s.own B.A β) s.used s.hp β v x'):Sim B β (s.set p (some (.boxT ty cs'))) tm w:=by
 have hhq:∀ q,q≠p→(s.set p (some (.boxT ty cs'))).hp q=s.hp q:=fun q h1=>by simp [St.set,au,h1]
 have hhp:(s.set p (some (.boxT ty cs'))).hp p=some (.boxT ty cs'):=by simp [St.set,au]
 have hnn:∀ q,(s.set p (some (.boxT ty cs'))).hp q≠none↔s.hp q≠none:=fun q=>by
  by_cases e:q=p
  ·subst e;rw [hhp,hp];simp
  ·rw [hhq q e]
 have hown:(s.set p (some (.boxT ty cs'))).own B.A β=s.own B.A β:=by
  funext b
  refine propext (or_congr_right ⟨?_,?_⟩)
  ·rintro ⟨q,l,hq,hl,rfl⟩;exact ⟨q,l,(hnn q).1 hq,hl,rfl⟩
  ·rintro ⟨q,l,hq,hl,rfl⟩;exact ⟨q,l,(hnn q).2 hq,hl,rfl⟩
 have hst:∀ q,nm s.used q→Stays s.hp (s.set p (some (.boxT ty cs'))).hp β β q:=by
  intro q _ o ho
  by_cases e:q=p
  ·subst e
   rw [hhp] at ho
   cases ho
   exact ⟨_,hp,by simp [Ob.like,hl],rfl⟩
  ·exact ⟨o,by rwa [hhq q e] at ho,Ob.bE _,rfl⟩
 refine { tms:=h.tms,io:=h.io,size:=h.size,frame:=h.frame,slots:=fun i=>?_,objs:=?_,blocks:=fun q l hq hl=>h.blocks q l ((hnn q).1 hq) hl,inj:=fun q q' l l' hq hq'=>h.inj q q' l l' ((hnn q).1 hq) ((hnn q').1 hq'),us:=h.us,stay:=h.stay }
 ·rw [hown];exact (h.slots i).mono (fun _ _ h=>h) (fun _ h=>h) hst
 ·intro q o ho
  rw [hown]
  by_cases e:q=p
  ·subst e
   rw [hhp] at ho
   cases ho
   obtain ⟨h1,k,c,e,g1,g2,g3,g4,g5,g6,g7⟩:=h.objs q _ hp
   refine ⟨h1,k,c,e,g1,g2,g3,g4,by rw [g5,hl],g6,fun j x' hx'=>?_⟩
   have hlt:j<cs.length:=by rw [← hl];exact (List.getElem?_eq_some_iff.1 hx').1
   exact (hv _ j _ x' (List.getElem?_eq_getElem hlt) hx' (g7 j _ (List.getElem?_eq_getElem hlt))).mono (fun _ _ h=>h) (fun _ h=>h) hst
  ·rw [hhq q e] at ho
   obtain ⟨h1,h2⟩:=h.objs q o ho
   exact ⟨h1,h2.mono (fun _ _ h=>h) (fun _ h=>h) hst rfl fun _ _=>rfl⟩
theorem jy {H:Array Obj} {own:Nat→Prop} {used:List Nat} {hp:Name→Option Ob} {β:Name→Option Blk} {v:Value} {p:Name} {w:W} (hu:nm used p) (ho:hp p=some (.arr w [])) (h:VR H own used hp β v (.d .nils)):VR H own used hp β v (.vw p 0 0):=by
 have:=h.toD
 cases this
 exact .vw _ _ _ _ hu rfl fun ty' w' xs hx=>by
  rw [ho] at hx
  cases hx
  exact ⟨Nat.le_refl _,none,0,rfl,.inl ⟨rfl,rfl⟩⟩
section
variable {P:Program} {cf:Cf} {Q:Exit→St→Prop} {s:St} {k:List It}
theorem qy (E:Eng P cf Q) {c:Code} (t n:Nat) (w:W) (ht:s.fr t=.d .nils) (hn:n ∉ s.used) (h:er E c ((s.add n (.arr w [])).put t (.vw [n] 0 0)) k):er E c s k:=by
 intro B hB ds β a w' hds hs
 have h1:=hs.dU hn none w
 have h2:=h1.slots t
 rw [show (s.add n (.arr w [])).fr t=.d .nils from ht] at h2
 exact h B hB ds _ a w' hds (h1.setv (jy (w:=w) ⟨n,[],rfl,List.mem_cons_self⟩ (by simp [St.add,au]) h2))
theorem jg (E:Eng P cf Q) {c:Code} (p:Name) (j n:Nat) (w:W) (cs:List AV) (hp:s.hp p=some (.box cs)) (hj:cs[j]?=some (.d .nils)) (hn:n ∉ s.used) (h:er E c ((s.add n (.arr w [])).set p (some (.box (cs.set j (.vw [n] 0 0))))) k):er E c s k:=by
 intro B hB ds β a w' hds hs
 have h1:=hs.dU hn none w
 have hpn:p≠[n]:=fE (hs.objs p _ hp).1 hn
 refine h B hB ds _ a w' hds (h1.rebox (cs:=cs) (by simpa [St.add,au,hpn] using hp) (by simp) fun v i x x' hx hx' hv=>?_)
 by_cases e:j=i
 ·subst e
  rw [hj] at hx
  cases hx
  rw [List.getElem?_set_self (List.getElem?_eq_some_iff.1 hj).1] at hx'
  cases hx'
  exact jy (w:=w) ⟨n,[],rfl,List.mem_cons_self⟩ (by simp [St.add,au]) hv
 ·rw [List.getElem?_set_ne e,hx] at hx'
  cases hx'
  exact hv
attribute [go_sem] List.set_cons_zero List.set_cons_succ
end
end Go.Ab
namespace Go.Ab
def gv (c:Bool) (x:AV):AV:=if c=true then x else .tup []
def cb (c w:Bool):Bool:=if w=true then c else !c
theorem IM (c:Bool):cb c true=c:=rfl
theorem IZ (c:Bool):cb c false=!c:=rfl
theorem Gi (x:AV):gv true x=x:=rfl
theorem CK (x:AV):gv false x=.tup []:=rfl
def pk (c:Bool) (x y:AV):AV:=if c=true then x else y
theorem Ir (x y:AV):pk true x y=x:=rfl
theorem IU (x y:AV):pk false x y=y:=rfl
theorem Hx (c b:Bool):pk c (.d (.bool true)) (gv (!c) (.d (.bool b)))=.d (.bool (c || b)):=by cases c<;>rfl
theorem GS (c b:Bool):pk (!c) (.d (.bool true)) (gv c (.d (.bool b)))=.d (.bool (!c || b)):=by cases c<;>rfl
theorem FY (c b:Bool):pk c (gv c (.d (.bool b))) (.d (.bool false))=.d (.bool (c && b)):=by cases c<;>rfl
attribute [go_sem] Gi CK IM IZ Ir IU Hx GS FY Bool.not_not Option.bind_some
theorem G9 (p:Name) (w:W) (xs:List D) (c:Bool) (x:AV):(gv c x).frz p w xs=gv c (x.frz p w xs):=by cases c<;>rfl
attribute [go_sem] G9
theorem HT {c want:Bool} (h:c=want):cb c want=true:=by subst h;cases c<;>rfl
theorem Ik {c want:Bool} (h:¬ c=want):cb c want=false:=by cases c<;>cases want<;>first | rfl | exact absurd rfl h
section
variable {P:Program} {cf:Cf} {Q:Exit→St→Prop} {s:St} {k:List It}
theorem gw (E:Eng P cf Q) {t:Nat} {c want:Bool} {all:Array Oper} {r:List Oper} {d:Nat} {op:Op} {ty:TypeId} {ps:String} {af:Array Edge} {g:Option (Nat × Bool)} {x:AV} (hd:d<cf.n)
  (hx:c=want→E.run (.ops all r::k) ((s.put t (.d (.bool want))).put d x)→E.stp { dst:=some d,op:=op,type:=ty,pos:=ps,after:=af,guard:=none } (s.put t (.d (.bool want))) (.ops all r::k) (opR P.ti cf.n op (some d) (s.put t (.d (.bool want)))))
  (h:E.run (.ops all r::k) ((s.put t (.d (.bool c))).put d (gv (cb c want) x))):E.gd want all { dst:=some d,op:=op,type:=ty,pos:=ps,after:=af,guard:=g } r s k (some (t,.d (.bool c))):=by
 by_cases hc:c=want
 ·have h1:=hx hc
  rw [HT hc,Gi] at h
  subst hc
  have h2:=h1 h
  cases c
  ·rw [vG];exact h2
  ·rw [wI];exact h2
 ·rw [Ik hc,CK] at h
  cases c<;>cases want<;>first
   | exact absurd rfl hc
   | (rw [vL,fX (h:=hd)];exact h)
   | (rw [xn,fX (h:=hd)];exact h)
theorem eD (E:Eng P cf Q) {t:Nat} {c e want:Bool} {all:Array Oper} {r:List Oper} {d:Nat} {op:Op} {ty:TypeId} {ps:String} {af:Array Edge} {g:Option (Nat × Bool)} {x:AV} (hd:d<cf.n) (hs:s.fr t=gv c (.d (.bool e)))
  (hx:c=true→e=want→E.run (.ops all r::k) ((s.put t (.d (.bool want))).put d x)→E.stp { dst:=some d,op:=op,type:=ty,pos:=ps,after:=af,guard:=none } (s.put t (.d (.bool want))) (.ops all r::k) (opR P.ti cf.n op (some d) (s.put t (.d (.bool want)))))
  (h:E.run (.ops all r::k) (s.put d (gv (c && cb e want) x))):E.gd want all { dst:=some d,op:=op,type:=ty,pos:=ps,after:=af,guard:=g } r s k (some (t,gv c (.d (.bool e)))):=by
 by_cases hc:c=true
 ·subst hc
  rw [Gi] at hs ⊢
  refine gw E hd (hx rfl) ?_
  rw [nG hs]
  exact h
 ·have hc:c=false:=by simpa using hc
  subst hc
  rw [CK]
  rw [Bool.false_and,CK] at h
  rw [wT,fX (h:=hd)]
  exact h
theorem mQ (E:Eng P cf Q) {x:R St} {o:Oper} {s2:St} (h:x.run (fun s'=>s'=s2) False) (hk:E.run k s2):E.stp o s k x:=by
 induction x with
 | ok a=>rw [mr];obtain rfl:a=s2:=h;exact hk
 | need p r ih=>rw [nt];exact ⟨h.1,ih h.2⟩
 | no=>exact h.elim
theorem br (E:Eng P cf Q) {t:Nat} {c want:Bool} {all:Array Oper} {r:List Oper} {d:Nat} {op:Op} {ty:TypeId} {ps:String} {af:Array Edge} {g:Option (Nat × Bool)} {x:AV} (hd:d<cf.n)
  (hx:c=want→(opR P.ti cf.n op (some d) (s.put t (.d (.bool want)))).run (fun s'=>s'=(s.put t (.d (.bool want))).put d x) False)
  (h:E.run (.ops all r::k) ((s.put t (.d (.bool c))).put d (gv (cb c want) x))):E.gd want all { dst:=some d,op:=op,type:=ty,pos:=ps,after:=af,guard:=g } r s k (some (t,.d (.bool c))) :=
 gw E hd (fun hc hk=>mQ E (hx hc) hk) h
theorem aI (E:Eng P cf Q) {t:Nat} {c e want:Bool} {all:Array Oper} {r:List Oper} {d:Nat} {op:Op} {ty:TypeId} {ps:String} {af:Array Edge} {g:Option (Nat × Bool)} {x:AV} (hd:d<cf.n) (hs:s.fr t=gv c (.d (.bool e)))
  (hx:c=true→e=want→(opR P.ti cf.n op (some d) (s.put t (.d (.bool want)))).run (fun s'=>s'=(s.put t (.d (.bool want))).put d x) False)
  (h:E.run (.ops all r::k) (s.put d (gv (c && cb e want) x))):E.gd want all { dst:=some d,op:=op,type:=ty,pos:=ps,after:=af,guard:=g } r s k (some (t,gv c (.d (.bool e)))) :=
 eD E hd hs (fun h1 h2 hk=>mQ E (hx h1 h2) hk) h
theorem bo (E:Eng P cf Q) {d:Nat} {n:Nat} {c:Bool} {x y:AV} {o:Oper} (hd:d<n) (h:E.run k (s.put d (pk c x y))):E.stp o s k ((jB (.d (.bool c)) x y).bind (bx n (some d) s)):=by
 cases c<;>(simp only [jB,R.bind,bx,hd,if_true,mr];exact h)
theorem aK (E:Eng P cf Q) {t:Nat} {c want:Bool} {all:Array Oper} {r:List Oper} {d:Nat} {a b b':Operand} {ty:TypeId} {ps:String} {af:Array Edge} {g:Option (Nat × Bool)} {c2:Bool} {z:AV} (hd:d<cf.n)
  (hx:c=want→ev (s.put t (.d (.bool want))) a=.d (.bool c2)) (hz:c=want→pk c2 (ev (s.put t (.d (.bool want))) b) (ev (s.put t (.d (.bool want))) b')=z)
  (h:E.run (.ops all r::k) ((s.put t (.d (.bool c))).put d (gv (cb c want) z))):E.gd want all { dst:=some d,op:=.pick a b b',type:=ty,pos:=ps,after:=af,guard:=g } r s k (some (t,.d (.bool c))) :=
 gw E hd (fun hc hk=>by
  have e:opR P.ti cf.n (.pick a b b') (some d) (s.put t (.d (.bool want)))=(jB (.d (.bool c2)) (ev (s.put t (.d (.bool want))) b) (ev (s.put t (.d (.bool want))) b')).bind (bx cf.n (some d) (s.put t (.d (.bool want)))):=by
   rw [← hx hc];rfl
  rw [e]
  refine bo E hd ?_
  rw [hz hc]
  exact hk) h
theorem aw (E:Eng P cf Q) {t:Nat} {c e want:Bool} {all:Array Oper} {r:List Oper} {d:Nat} {a b b':Operand} {ty:TypeId} {ps:String} {af:Array Edge} {g:Option (Nat × Bool)} {c2:Bool} {z:AV} (hd:d<cf.n) (hs:s.fr t=gv c (.d (.bool e)))
  (hx:c=true→e=want→ev (s.put t (.d (.bool want))) a=.d (.bool c2)) (hz:c=true→e=want→pk c2 (ev (s.put t (.d (.bool want))) b) (ev (s.put t (.d (.bool want))) b')=z)
  (h:E.run (.ops all r::k) (s.put d (gv (c && cb e want) z))):E.gd want all { dst:=some d,op:=.pick a b b',type:=ty,pos:=ps,after:=af,guard:=g } r s k (some (t,gv c (.d (.bool e)))) :=
 eD E hd hs (fun h1 h2 hk=>by
  have e':opR P.ti cf.n (.pick a b b') (some d) (s.put t (.d (.bool want)))=(jB (.d (.bool c2)) (ev (s.put t (.d (.bool want))) b) (ev (s.put t (.d (.bool want))) b')).bind (bx cf.n (some d) (s.put t (.d (.bool want)))):=by
   rw [← hx h1 h2];rfl
  rw [e']
  refine bo E hd ?_
  rw [hz h1 h2]
  exact hk) h
theorem aO (E:Eng P cf Q) (h:∀ (Q':Exit→St→Prop) (_:Q'=Q) (E':Eng P cf Q'),E'.run k s):E.run k s:=h Q rfl E
theorem qO (E:Eng P cf Q) {t e:TypeId} {x:Operand} {yt:TypeId} {dst:Nat} {ty:TypeId} {ps:String} {af:Array Edge} {w0:W} {xs:List D} (hk:(P.ti t).k=.slice e) (hd:dst<cf.n) (hx:ev s x=.d (.sl w0 xs))
  (h:∀ b:Bool,(b=true→xs=[])→E.run k (s.put dst (.d (.bool b)))) :
  E.stp { dst:=some dst,op:=.binOp .eql t x (.const (.slice none 0 0)) yt,type:=ty,pos:=ps,after:=af,guard:=none } s k .no :=
 BM E false hk hd hx h
end
end Go.Ab
namespace Go.Ab
section
variable {P:Program}
theorem HCall.thaw {G:List (Nat × Obj)} {f:FuncId} {args:List AV} {hp:List (Name × Ob)} {u:List Nat} {Q Q':AV→List (Name × Ob)→Prop} (h:HCall P G f args hp u Q) (n:Nat) (w:W) (hn:n ∉ u)
  (hQ:∀ r hp',Q r hp'→Q' r hp'∨(r=.d .nils∧hp'=[]∧Q' (.vw [n] 0 0) [([n],.arr w [])])):HCall P G f args hp u Q':=by
 refine ⟨h.1,fun B β vs W h1 h2 h3 h4 h5=>?_⟩
 refine (h.2 B β vs W h1 h2 h3 h4 h5).mono ?_
 rintro e w' ⟨v,r,hp',u',β',he,hq,hs⟩
 rcases hQ r hp' hq with hq' | ⟨rfl,rfl,hq'⟩
 ·exact ⟨v,r,hp',u',β',he,hq',hs⟩
 ·have hle:Le ({ B with n:=1 }:Base).U0 id (mk [(0,.d .nils)] [] u') (mk [(0,.d .nils)] [] u):=by
   refine LeL.le ?_
   refine ⟨⟨⟨rfl,rfl⟩,trivial⟩,trivial,trivial,?_,trivial⟩
   rw [show ({ B with n:=1 }:Base).U0=u from h3]
   simp
  obtain ⟨β2,hs2,_⟩:=hs.le hle
  have h6:=hs2.dU (t:=n) (by rw [aa];exact hn) none w
  have h7:=h6.slots 0
  rw [show ((mk [(0,AV.d .nils)] [] u).add n (.arr w [])).fr 0=.d .nils from rfl] at h7
  have h8:=h6.setv (jy (p:=[n]) (w:=w) ⟨n,[],rfl,List.mem_cons_self⟩ (by simp [St.add,au]) h7)
  have e2:((mk [(0,AV.d .nils)] [] u).add n (.arr w [])).put 0 (.vw [n] 0 0)=mk [(0,.vw [n] 0 0)] [([n],.arr w [])] (n::u):=by
   rw [Bt,fV];rfl
  rw [e2] at h8
  exact ⟨v,_,_,_,_,he,hq',h8⟩
end
end Go.Ab

