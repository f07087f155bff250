/- S6: heads and code of the typed evaluator. No condition. -/
import Derived.Test.YtifmggmhdcdgbaaS5
set_option linter.unusedVariables false
set_option linter.unusedSimpArgs false
namespace Go.Am
def SC.e9 (ok:Nat->Bool):SC->SC
 |.ptr n k sz off=>match ok n with|true=>.ptr n k sz off|false=>.bh
 |.sl n sz lo len=>match ok n with|true=>.sl n sz lo len|false=>.bh
 |.bx n k az off sz len=>match ok n with|true=>.bx n k az off sz len|false=>.bh
 |.cD n k az off sz i=>match ok n with|true=>.cD n k az off sz i|false=>.bh
 |x=>x
def SC.cI (ok:Nat->Bool):SC->SC
 |.fn f bW=>.fn f (bW.map (SC.e9 ok))
 |.v t x=>.v t x
 |.nil ts=>.nil ts
 |.ptr n k sz off=>SC.e9 ok (.ptr n k sz off)
 |.ca ts x off=>.ca ts x off
 |.sl n sz lo len=>SC.e9 ok (.sl n sz lo len)
 |.bx n k az off sz len=>SC.e9 ok (.bx n k az off sz len)
 |.cD n k az off sz i=>SC.e9 ok (.cD n k az off sz i)
 |.bh=>.bh
theorem SC.C7 (ok:Nat->Bool) (c:SC):(c.e9 ok).er=c.er.e9 ok:=by
 cases c with
 |ptr n k sz off=>simp only[SC.e9,SC.er,ai.e9];cases ok n<;>rfl
 |sl n sz lo len=>simp only[SC.e9,SC.er,ai.e9];cases ok n<;>rfl
 |bx n k az off sz len=>simp only[SC.e9,SC.er,ai.e9];cases ok n<;>rfl
 |cD n k az off sz i=>simp only[SC.e9,SC.er,ai.e9];cases ok n<;>rfl
 |_=>rfl
theorem SC.Ae (ok:Nat->Bool) (c:SC):(c.cI ok).er=c.er.cI ok:=by
 cases c with
 |fn f bW=>
  simp only[SC.cI,SC.er,ai.cI,SC.Dn,List.map_map]
  congr 1
  exact List.map_congr_left fun c _=>SC.C7 ok c
 |ptr n k sz off=>exact SC.C7 ok (.ptr n k sz off)
 |sl n sz lo len=>exact SC.C7 ok (.sl n sz lo len)
 |bx n k az off sz len=>exact SC.C7 ok (.bx n k az off sz len)
 |cD n k az off sz i=>exact SC.C7 ok (.cD n k az off sz i)
 |_=>rfl
def SV.cI (ok:Nat->Bool):SV->SV
 |.one c=>.one (c.cI ok)
 |.agg cs=>.agg (cs.map (SC.cI ok))
 |.bn xs=>.bn (xs.map fun x=>(x.1,x.2.map (SC.cI ok)))
theorem My (ok:Nat->Bool) (cs:List SC):(cs.map (SC.cI ok)).map SC.er=(cs.map SC.er).map (ai.cI ok):=by
 simp only[List.map_map]
 exact List.map_congr_left fun c _=>SC.Ae ok c
theorem SV.Ae (ok:Nat->Bool) (v:SV):(v.cI ok).er=v.er.cI ok:=by
 cases v with
 |one c=>simp only[SV.cI,SV.er,aj.cI,SC.Ae]
 |agg cs=>simp only[SV.cI,SV.er,aj.cI,My]
 |bn xs=>
  simp only[SV.cI,SV.er,aj.cI,List.map_map]
  congr 1
  exact List.map_congr_left fun x _=>by simp only[Function.comp];rw[My]
def SB.cI (ok:Nat->Bool):SB->SB
 |.box cs=>.box (cs.map (SC.cI ok))
 |.row gr m ts xs=>.row gr m ts xs
theorem SB.Ae (ok:Nat->Bool) (b:SB):(b.cI ok).er=b.er.cI ok:=by
 cases b with
 |box cs=>simp only[SB.cI,SB.er,ar.cI,My]
 |row gr m ts xs=>rfl
def zt (ok:Nat->Bool) (env:Nat->SV):List Nat->(Nat->SV)
 |[]=>fun _=>.one .bh
 |s::ss=>aw (zt ok env ss) s ((env s).cI ok)
def vm (ok:Nat->Bool) (h:Nat->Option SB):List Nat->(Nat->Option SB)
 |[]=>fun _=>none
 |s::ss=>match ok s with
  |true=>match h s with
   |some b=>aw (vm ok h ss) s (some (b.cI ok))
   |none=>vm ok h ss
  |false=>vm ok h ss
def rP (ok:Nat->Bool):List Nat->(Nat->Bool)
 |[]=>fun _=>false
 |s::ss=>match ok s with
  |true=>aw (rP ok ss) s true
  |false=>rP ok ss
theorem abX (ok:Nat->Bool) (env:Nat->SV):∀l,pC (zt ok env l)=u9 ok (pC env) l
 |[]=>rfl
 |s::ss=>by simp only[zt,u9,v5,abX ok env ss,SV.Ae];rfl
theorem KZ (ok:Nat->Bool) (h:Nat->Option SB):∀l,cM (vm ok h l)=qy ok (cM h) l
 |[]=>rfl
 |s::ss=>by
  simp only[vm,qy]
  cases ok s with
  |false=>simp only[KZ ok h ss,Bool.false_eq_true,if_false]
  |true=>
   have:cM h s=(h s).map SB.er:=rfl
   simp only[if_true,this]
   cases h s with
   |none=>simp only[Option.map_none,KZ ok h ss]
   |some b=>simp only[H6,KZ ok h ss,Option.map_some,SB.Ae]
theorem abY (ok:Nat->Bool):∀l,rP ok l=vb ok l
 |[]=>rfl
 |s::ss=>by
  simp only[rP,vb]
  cases ok s<;>simp[abY ok ss]
theorem Ux (ok:Nat->Bool) (env:Nat->SV):∀(l:List Nat) (s:Nat),s∉l->zt ok env l s=.one .bh
 |[],s,_=>rfl
 |a::l,s,h=>by
  simp only[List.mem_cons,not_or] at h
  simp only[zt,bZ _ _ _ _ h.1,Ux ok env l s h.2]
theorem Uy (ok:Nat->Bool) (hp:Nat->Option SB):∀(l:List Nat) (s:Nat),s∉l->vm ok hp l s=none
 |[],s,_=>rfl
 |a::l,s,h=>by
  simp only[List.mem_cons,not_or] at h
  have ih:=Uy ok hp l s h.2
  simp only[vm]
  cases ok a with
  |false=>exact ih
  |true=>
   cases hp a with
   |none=>exact ih
   |some b=>simp only[bZ _ _ _ _ h.1];exact ih
theorem Uz (ok:Nat->Bool):∀(l:List Nat) (s:Nat),s∉l->rP ok l s=false
 |[],s,_=>rfl
 |a::l,s,h=>by
  simp only[List.mem_cons,not_or] at h
  have ih:=Uz ok l s h.2
  simp only[rP]
  cases ok a with
  |false=>exact ih
  |true=>simp only[bZ _ _ _ _ h.1];exact ih
def SC.xd (n:Nat):SC->Bool
 |.ptr m _ _ _=>Nat.beq m n
 |.sl m _ _ _=>Nat.beq m n
 |.bx m _ _ _ _ _=>Nat.beq m n
 |.cD m _ _ _ _ _=>Nat.beq m n
 |_=>false
def SC.gw (n:Nat):SC->Bool
 |.fn _ bW=>bW.any (SC.xd n)
 |.ptr m _ _ _=>Nat.beq m n
 |.sl m _ _ _=>Nat.beq m n
 |.bx m _ _ _ _ _=>Nat.beq m n
 |.cD m _ _ _ _ _=>Nat.beq m n
 |.v _ _=>false
 |.nil _=>false
 |.ca _ _ _=>false
 |.bh=>false
theorem C3 (m n:Nat):(m==n)=Nat.beq m n:=by
 rw[Bool.eq_iff_iff,beq_iff_eq]
 exact⟨fun h=>by rw[h];exact Nat.beq_refl n,Nat.eq_of_beq_eq_true⟩
theorem SC.am5 (n:Nat) (c:SC):c.er.xd n=c.xd n:=by
 cases c<;>simp[SC.er,ai.xd,SC.xd,C3]
theorem SC.Ky (n:Nat) (c:SC):c.er.gw n=c.gw n:=by
 cases c with
 |fn f bW=>
  simp only[SC.er,SC.Dn,ai.gw,SC.gw,List.any_map]
  congr 1
  funext c
  exact SC.am5 n c
 |ptr m _ _ _=>exact C3 m n
 |sl m _ _ _=>exact C3 m n
 |bx m _ _ _ _ _=>exact C3 m n
 |cD m _ _ _ _ _=>exact C3 m n
 |_=>rfl
def SV.gw (n:Nat):SV->Bool
 |.one c=>c.gw n
 |.agg cs=>cs.any (SC.gw n)
 |.bn xs=>xs.any fun x=>x.2.any (SC.gw n)
theorem RY (n:Nat) (cs:List SC):(cs.map SC.er).any (ai.gw n)=cs.any (SC.gw n):=by
 rw[List.any_map]
 congr 1
 funext c
 exact SC.Ky n c
theorem SV.Ky (n:Nat) (v:SV):v.er.gw n=v.gw n:=by
 cases v with
 |one c=>exact SC.Ky n c
 |agg cs=>exact RY n cs
 |bn xs=>
  simp only[SV.er,aj.gw,SV.gw,List.any_map]
  congr 1
  funext x
  exact RY n x.2
def aa4 (n:Nat):Option SB->Bool
 |some (.box cs)=>cs.any (SC.gw n)
 |_=>false
def H5 (n:Nat):List Nat->Bool
 |[]=>false
 |m::l=>match Nat.beq n m with
  |true=>true
  |false=>H5 n l
theorem WG (n:Nat):∀l:List Nat,H5 n l=l.contains n
 |[]=>rfl
 |m::l=>by
  simp only[H5,List.contains_cons]
  have e:(n==m)=Nat.beq n m:=by cases h:Nat.beq n m with
   |true=>simpa using Nat.eq_of_beq_eq_true h
   |false=>simp;intro h';rw[h',Nat.beq_refl] at h;cases h
  rw[e,WG n l]
  cases Nat.beq n m<;>rfl
def ah.iK (σ:ah) (ke kh:List Nat):Nat->Bool:=fun n=>(σ.h n).isSome&&H5 n kh&&(Nat.ble aH n||ke.any (fun s=>(σ.env s).gw n)||kh.any fun k=>aa4 n (σ.h k))
theorem ah.al0 (σ:ah) (ke kh:List Nat):σ.er.iK ke kh=σ.iK ke kh:=by
 funext n
 simp only[St.iK,ah.iK]
 have h1:(σ.er.h n).isSome=(σ.h n).isSome:=WL σ.h n
 have h2:(fun s=>(σ.er.env s).gw n)=fun s=>(σ.env s).gw n:=by funext s;exact SV.Ky n _
 have h3:(fun k=>match σ.er.h k with|some (.box cs)=>cs.any (·.gw n)|_=>false)=fun k=>aa4 n (σ.h k):=by
  funext k
  have:σ.er.h k=(σ.h k).map SB.er:=rfl
  rw[this]
  cases σ.h k with
  |none=>rfl
  |some b=>cases b with
   |box cs=>exact RY n cs
   |row gr m ts xs=>rfl
 rw[h1,h2,WG,Bool.and_comm (x:=(σ.h n).isSome)]
 exact congrArg (fun g:Nat->Bool=>(kh.contains n&&(σ.h n).isSome&&((Nat.ble aH n||ke.any fun s=>SV.gw n (σ.env s))||kh.any g))) h3
def ah.gY (σ:ah) (ke kh:List Nat):ah:=
 {env:=zt (σ.iK ke kh) σ.env ke,h:=vm (σ.iK ke kh) σ.h kh,used:=fun n=>Nat.ble aH n||rP (σ.iK ke kh) kh n}
theorem ah.R5 (σ:ah) (ke kh:List Nat):(σ.gY ke kh).er=σ.er.gY ke kh:=by
 simp only[ah.gY,St.gY,ah.al0]
 have e1:=abX (σ.iK ke kh) σ.env ke
 have e2:=KZ (σ.iK ke kh) σ.h kh
 have e3:=abY (σ.iK ke kh) kh
 show St.mk (pC (zt (σ.iK ke kh) σ.env ke)) (cM (vm (σ.iK ke kh) σ.h kh)) (fun n=>Nat.ble aH n||rP (σ.iK ke kh) kh n)=_
 rw[e1,e2,e3]
 rfl
def tK (x c n:Nat):Nat:=match Nat.beq n x with|true=>c|false=>n
theorem Fv (x c n:Nat):tK x c n=nf x c n:=by
 unfold tK nf
 cases h:Nat.beq n x with
 |true=>rw[if_pos (Nat.eq_of_beq_eq_true h)]
 |false=>rw[if_neg (fun e=>by rw[e,Nat.beq_refl] at h;cases h)]
def SC.oe (x c:Nat):SC->SC
 |.ptr n k sz off=>.ptr (tK x c n) k sz off
 |.sl n sz lo len=>.sl (tK x c n) sz lo len
 |.bx n k az off sz len=>.bx (tK x c n) k az off sz len
 |.cD n k az off sz i=>.cD (tK x c n) k az off sz i
 |y=>y
def SC.aX (x c:Nat):SC->SC
 |.fn f bW=>.fn f (bW.map (SC.oe x c))
 |.ptr n k sz off=>.ptr (tK x c n) k sz off
 |.sl n sz lo len=>.sl (tK x c n) sz lo len
 |.bx n k az off sz len=>.bx (tK x c n) k az off sz len
 |.cD n k az off sz i=>.cD (tK x c n) k az off sz i
 |.v t y=>.v t y
 |.nil ts=>.nil ts
 |.ca ts y off=>.ca ts y off
 |.bh=>.bh
theorem SC.am9 (x c:Nat) (y:SC):(y.oe x c).er=y.er.oe x c:=by
 cases y<;>simp[SC.oe,SC.er,ai.oe,Fv]
theorem SC.xg (x c:Nat) (y:SC):(y.aX x c).er=y.er.aX x c:=by
 cases y with
 |fn f bW=>
  simp only[SC.aX,SC.er,ai.aX,SC.Dn,List.map_map]
  congr 1
  exact List.map_congr_left fun y _=>SC.am9 x c y
 |ptr n k sz off=>simp only[SC.aX,SC.er,ai.aX,ai.oe,Fv]
 |sl n sz lo len=>simp only[SC.aX,SC.er,ai.aX,ai.oe,Fv]
 |bx n k az off sz len=>simp only[SC.aX,SC.er,ai.aX,ai.oe,Fv]
 |cD n k az off sz i=>simp only[SC.aX,SC.er,ai.aX,ai.oe,Fv]
 |_=>rfl
theorem R3 (x c:Nat) (cs:List SC):(cs.map (SC.aX x c)).map SC.er=(cs.map SC.er).map (ai.aX x c):=by
 simp only[List.map_map]
 exact List.map_congr_left fun y _=>SC.xg x c y
def SV.aX (x c:Nat):SV->SV
 |.one y=>.one (y.aX x c)
 |.agg ys=>.agg (ys.map (SC.aX x c))
 |.bn ys=>.bn (ys.map fun y=>(y.1,y.2.map (SC.aX x c)))
theorem SV.xg (x c:Nat) (v:SV):(v.aX x c).er=v.er.aX x c:=by
 cases v with
 |one y=>simp only[SV.aX,SV.er,aj.aX,SC.xg]
 |agg cs=>simp only[SV.aX,SV.er,aj.aX,R3]
 |bn xs=>
  simp only[SV.aX,SV.er,aj.aX,List.map_map]
  congr 1
  exact List.map_congr_left fun y _=>by simp only[Function.comp];rw[R3]
def SB.aX (x c:Nat):SB->SB
 |.box cs=>.box (cs.map (SC.aX x c))
 |.row gr m ts xs=>.row gr m ts xs
theorem SB.xg (x c:Nat) (b:SB):(b.aX x c).er=b.er.aX x c:=by
 cases b with
 |box cs=>simp only[SB.aX,SB.er,ar.aX,R3]
 |row gr m ts xs=>rfl
def ah.aX (σ:ah) (x c:Nat):Option ah:=
  match Nat.beq x c with
  |true=>some σ
  |false=>match Nat.ble aH x with
   |true=>some σ
   |false=>match σ.used c with
    |true=>none
    |false=>some
     {env:=fun s=>(σ.env s).aX x c
      h:=fun n=>match Nat.beq n c with
        |true=>(σ.h x).map (SB.aX x c)
        |false=>match Nat.beq n x with
         |true=>none
         |false=>(σ.h n).map (SB.aX x c)
      used:=fun n=>match Nat.beq n c with
        |true=>σ.used x
        |false=>match Nat.beq n x with
         |true=>false
         |false=>σ.used n}
theorem w6 {m n:Nat} (h:Nat.beq m n=false):m≠n:=fun e=>by rw[e,Nat.beq_refl] at h;cases h
theorem ah.xg {σ σ1:ah} {x c:Nat} (h:σ.aX x c=some σ1):σ.er.aX x c=some σ1.er:=by
 unfold ah.aX at h
 split at h
 ·rename_i e
  injection h with h
  subst h
  simp[St.aX,Nat.eq_of_beq_eq_true e]
 ·rename_i e
  split at h
  ·rename_i hx
   injection h with h
   subst h
   simp only[St.aX,if_neg (w6 e),hx,if_true]
  rename_i hx
  split at h
  ·cases h
  ·rename_i hu
   injection h with h
   subst h
   have jM:σ.er.used c=false:=hu
   simp only[St.aX,if_neg (w6 e),hx,jM,Bool.false_eq_true,if_false]
   congr 1
   have mm:∀o:Option SB,(o.map (SB.aX x c)).map SB.er=(o.map SB.er).map (·.aX x c):=by
    intro o;cases o with
    |none=>rfl
    |some b=>simp only[Option.map_some,SB.xg]
   have e1:(fun s=>(σ.er.env s).aX x c)=pC (fun s=>(σ.env s).aX x c):=by
    funext s;exact(SV.xg x c (σ.env s)).symm
   have e2:(fun n=>if n=c then(σ.er.h x).map (·.aX x c) else if n=x then none else(σ.er.h n).map (·.aX x c))=cM (fun n=>match Nat.beq n c with
     |true=>(σ.h x).map (SB.aX x c)
     |false=>match Nat.beq n x with
      |true=>none
      |false=>(σ.h n).map (SB.aX x c)):=by
    funext n
    simp only[cM]
    cases hc:Nat.beq n c with
    |true=>rw[if_pos (Nat.eq_of_beq_eq_true hc)];exact(mm (σ.h x)).symm
    |false=>
     rw[if_neg (w6 hc)]
     cases hx:Nat.beq n x with
     |true=>rw[if_pos (Nat.eq_of_beq_eq_true hx)];rfl
     |false=>rw[if_neg (w6 hx)];exact(mm (σ.h n)).symm
   have e3:(fun n=>if n=c then σ.er.used x else if n=x then false else σ.er.used n)=(fun n=>match Nat.beq n c with
     |true=>σ.used x
     |false=>match Nat.beq n x with
      |true=>false
      |false=>σ.used n):=by
    funext n
    cases hc:Nat.beq n c with
    |true=>rw[if_pos (Nat.eq_of_beq_eq_true hc)];rfl
    |false=>
     rw[if_neg (w6 hc)]
     cases hx:Nat.beq n x with
     |true=>rw[if_pos (Nat.eq_of_beq_eq_true hx)]
     |false=>rw[if_neg (w6 hx)];rfl
   rw[e1,e2,e3]
   rfl
abbrev Cn:=List (Bool×Nat×Nat×Nat×Mode×List Ty)
def Cn.er (cn:Cn):List (Bool×Nat×Nat×Nat×Mode):=cn.map fun x=>(x.1,x.2.1,x.2.2.1,x.2.2.2.1,x.2.2.2.2.1)
def ah.jC (σ:ah) (c:Nat):Mode->ah
 |.aA=>match σ.h c with
  |some (.row gr .ab ts xs)=>σ.dc c (.row gr .aA ts xs)
  |_=>σ
 |_=>σ
theorem ah.adZ (σ:ah) (c:Nat) (m:Mode):(σ.jC c m).er=σ.er.jC c m:=by
 cases m with
 |live=>rfl
 |ab=>rfl
 |aA=>
  simp only[ah.jC,St.jC]
  have hh:σ.er.h c=(σ.h c).map SB.er:=rfl
  rw[hh]
  cases σ.h c with
  |none=>rfl
  |some b=>cases b with
   |box cs=>rfl
   |row gr m ts xs=>cases m with
    |ab=>simp only[Option.map_some,SB.er,ah.oJ]
    |live=>rfl
    |aA=>rfl
def xm (σ:ah):Bool×Nat×Nat×Nat×Mode×List Ty->Option ah
 |(true,n,j,c,m,us)=>match σ.h n with
  |some (.box cs)=>match cs[j]? with
   |some (.sl a _ _ _)=>(σ.aX a c).map fun σ1=>σ1.jC c m
   |some (.nil ts)=>match ts with
    |[]=>some σ
    |t::ts=>match σ.ins c (.row true m (t::ts) []) with
     |some σ1=>some (σ1.dc n (.box (cs.set j (.sl c (t::ts).length 0 0))))
     |none=>none
   |_=>some σ
  |_=>some σ
 |(false,n,j,c,m,us)=>match σ.env n with
  |.one (.sl a _ _ _)=>(σ.aX a c).map fun σ1=>σ1.jC c m
  |.one (.nil ts)=>match ts with
   |[]=>some σ
   |t::ts=>match σ.ins c (.row true m (t::ts) []) with
    |some σ1=>some (σ1.put (some n) (.one (.sl c (t::ts).length 0 0)))
    |none=>none
  |_=>some σ
theorem abW {σ σ1:ah} {a c:Nat} {m:Mode} (h:(σ.aX a c).map (fun σ1=>σ1.jC c m)=some σ1):(σ.er.aX a c).map (fun σ1=>σ1.jC c m)=some σ1.er:=by
 rw[Option.map_eq_some_iff] at h
 obtain⟨σ2,e,rfl⟩:=h
 rw[ah.xg e,Option.map_some,ah.adZ]
theorem anH {σ σ1:ah} {x:Bool×Nat×Nat×Nat×Mode×List Ty} (h:xm σ x=some σ1):σ.er.canon (x.1,x.2.1,x.2.2.1,x.2.2.2.1,x.2.2.2.2.1)=some σ1.er:=by
 obtain⟨b,n,j,c,m,us⟩:=x
 cases b with
 |true=>
  simp only[xm] at h
  simp only[St.canon]
  have hh:σ.er.h n=(σ.h n).map SB.er:=rfl
  rw[hh]
  split at h
  ·rename_i cs hn
   simp only[hn,Option.map_some,SB.er,List.getElem?_map]
   split at h
   ·rename_i a _ _ _ hj
    simp only[hj,Option.map_some,SC.er]
    exact abW h
   ·rename_i ts hj
    simp only[hj,Option.map_some,SC.er]
    split at h
    ·injection h with h;subst h;rfl
    ·rename_i t ts
     split at h
     ·rename_i σ2 e
      injection h with h
      subst h
      have i:=ah.sn e
      rw[show(SB.row true m (t::ts) []).er=ar.row true m (t::ts).length [] from rfl] at i
      simp only[List.length_cons,Nat.zero_lt_succ,if_true] at i⊢
      rw[i]
      simp only[ah.oJ,SB.er,List.map_set,SC.er,List.length_cons]
     ·cases h
   ·rename_i hs hz
    injection h with h
    subst h
    cases hj:cs[j]? with
    |none=>rfl
    |some y=>cases y<;>first|rfl|(exfalso;exact hs _ _ _ _ hj)|(exfalso;exact hz _ hj)
  ·rename_i hb
   injection h with h
   subst h
   cases hn:σ.h n with
   |none=>rfl
   |some b=>cases b with
    |box cs=>exact absurd hn (hb cs)
    |row gr m ts xs=>rfl
 |false=>
  simp only[xm] at h
  simp only[St.canon]
  have hh:σ.er.env n=(σ.env n).er:=rfl
  rw[hh]
  split at h
  ·rename_i a _ _ _ hn
   simp only[hn,SV.er,SC.er]
   exact abW h
  ·rename_i ts hn
   simp only[hn,SV.er,SC.er]
   split at h
   ·injection h with h;subst h;rfl
   ·rename_i t ts
    split at h
    ·rename_i σ2 e
     injection h with h
     subst h
     have i:=ah.sn e
     rw[show(SB.row true m (t::ts) []).er=ar.row true m (t::ts).length [] from rfl] at i
     simp only[List.length_cons,Nat.zero_lt_succ,if_true] at i⊢
     rw[i]
     simp only[ah.dh,SV.er,SC.er,List.length_cons]
    ·cases h
  ·rename_i hs hz
   injection h with h
   subst h
   cases hn:σ.env n with
   |one y=>cases y<;>first|rfl|(exfalso;exact hs _ _ _ _ hn)|(exfalso;exact hz _ hn)
   |_=>rfl
def Cj (σ:ah):Cn->Option ah
 |[]=>some σ
 |x::l=>match xm σ x with
  |some σ1=>Cj σ1 l
  |none=>none
theorem abl:∀{cn:Cn} {σ σ1:ah},Cj σ cn=some σ1->σ.er.sb cn.er=some σ1.er
 |[],σ,σ1,h=>by simp only[Cj] at h;injection h with h;subst h;rfl
 |x::l,σ,σ1,h=>by
  simp only[Cj] at h
  split at h
  ·rename_i σ2 e
   have i:=anH e
   have j:=abl h
   simp only[Cn.er] at j
   simp only[Cn.er,List.map_cons,St.sb,i,j]
  ·cases h
section
variable {ρ:Type}
def y8 (n:Nat) (k:Nat->Option ρ):List Nat->Option ρ
 |[]=>k n
 |c::l=>match Nat.beq n c with
  |true=>k c
  |false=>y8 n k l
theorem aas (n:Nat) (k:Nat->Option ρ):∀l,y8 n k l=k n
 |[]=>rfl
 |c::l=>by
  simp only[y8]
  split
  ·rename_i e;rw[Nat.eq_of_beq_eq_true e]
  ·exact aas n k l
def NM (kh:List Nat) (c:SC) (k:SC->Option ρ):Option ρ:=
 match c with
 |.v t x=>k (.v t x)
 |.nil ts=>k (.nil ts)
 |.ptr n kk sz off=>y8 n (fun n=>k (.ptr n kk sz off)) kh
 |.ca ts x off=>k (.ca ts x off)
 |.sl n sz lo len=>y8 n (fun n=>k (.sl n sz lo len)) kh
 |.bx n a b c d e=>y8 n (fun n=>k (.bx n a b c d e)) kh
 |.cD n a b c d e=>y8 n (fun n=>k (.cD n a b c d e)) kh
 |.fn f bW=>k (.fn f bW)
 |.bh=>k .bh
theorem Xt (kh:List Nat) (c:SC) (k:SC->Option ρ):NM kh c k=k c:=by
 cases c<;>first|rfl|exact aas _ _ _
def DC (kh:List Nat):List SC->(List SC->Option ρ)->Option ρ
 |[],k=>k []
 |c::cs,k=>NM kh c fun c=>DC kh cs fun cs=>k (c::cs)
theorem NO (kh:List Nat):∀(cs:List SC) (k:List SC->Option ρ),DC kh cs k=k cs
 |[],k=>rfl
 |c::cs,k=>by simp only[DC,Xt,NO kh cs]
def ug (kh:List Nat) (env:Nat->SV):List Nat->(List (Nat×SV)->Option ρ)->Option ρ
 |[],k=>k []
 |s::ss,k=>match env s with
  |.one .bh=>ug kh env ss k
  |.one c=>NM kh c fun c=>ug kh env ss fun l=>k ((s,.one c)::l)
  |.agg cs=>DC kh cs fun cs=>ug kh env ss fun l=>k ((s,.agg cs)::l)
  |.bn xs=>ug kh env ss fun l=>k ((s,.bn xs)::l)
def uh (kh:List Nat) (h:Nat->Option SB):List Nat->(List (Nat×Option SB)->Option ρ)->Option ρ
 |[],k=>k []
 |n::ns,k=>match h n with
  |none=>uh kh h ns k
  |some (.box cs)=>DC kh cs fun cs=>uh kh h ns fun l=>k ((n,some (.box cs))::l)
  |some (.row gr m ts xs)=>uh kh h ns fun l=>k ((n,some (.row gr m ts xs))::l)
def yr (u:Nat->Bool):List Nat->(List Nat->Option ρ)->Option ρ
 |[],k=>k []
 |n::ns,k=>match u n with
  |true=>yr u ns fun l=>k (n::l)
  |false=>yr u ns k
def vq:List Nat->Nat->Bool
 |[],n=>Nat.ble aH n
 |m::l,n=>match Nat.beq n m with
  |true=>true
  |false=>vq l n
def ah.As (ke kh:List Nat) (σ:ah) (k:ah->Option ρ):Option ρ:=
 ug kh σ.env ke fun le=>uh kh σ.h kh fun lh=>yr σ.used kh fun lu=>k ⟨lm le,jI lh,vq lu⟩
structure g9 (ke kh:List Nat) (σ:ah):Prop where
 e:∀s,s∉ke->σ.env s=.one .bh
 h:∀n,n∉kh->σ.h n=none
 u:∀n,n∉kh->σ.used n=Nat.ble aH n
 p:∀n,σ.used n=false->Nat.ble aH n=false
theorem Xu (kh:List Nat) (env:Nat->SV):∀(ss:List Nat) (k:List (Nat×SV)->Option ρ),∃l:List (Nat×SV),ug kh env ss k=k l/\∀s,lm l s=if s∈ss then env s else .one .bh
 |[],k=>⟨[],rfl,fun s=>by simp[lm]⟩
 |a::ss,k=>by
  have cr:∀v:SV,env a=v->(∀k':List (Nat×SV)->Option ρ,∃l,ug kh env ss k'=k' l/\∀s,lm l s=if s∈ss then env s else .one .bh)->
    ∃l:List (Nat×SV),ug kh env ss (fun l=>k ((a,v)::l))=k l/\∀s,lm l s=if s∈a::ss then env s else .one .bh:=by
   intro v hv ih
   obtain⟨l,h1,h2⟩:=ih fun l=>k ((a,v)::l)
   refine⟨(a,v)::l,h1,fun s=>?_⟩
   simp only[lm,jg]
   split
   ·rename_i e
    subst e
    rw[if_pos (by simp)]
    exact hv.symm
   ·rename_i ax
    rw[h2 s]
    by_cases hs:s∈ss
    ·rw[if_pos hs,if_pos (by simp[hs])]
    ·rw[if_neg hs,if_neg (by simp[hs,ax])]
  have ih:=fun k':List (Nat×SV)->Option ρ=>Xu kh env ss k'
  simp only[ug]
  split
  ·rename_i hv
   obtain⟨l,h1,h2⟩:=ih k
   refine⟨l,h1,fun s=>?_⟩
   rw[h2 s]
   by_cases hs:s∈ss
   ·rw[if_pos hs,if_pos (by simp[hs])]
   ·rw[if_neg hs]
    by_cases wC:s=a
    ·subst wC;rw[if_pos (by simp),hv]
    ·rw[if_neg (by simp[hs,wC])]
  ·rename_i c hc hv
   rw[Xt]
   exact cr _ hv ih
  ·rename_i cs hv
   rw[NO]
   exact cr _ hv ih
  ·rename_i xs hv
   exact cr _ hv ih
theorem Xv (kh:List Nat) (h:Nat->Option SB):∀(ns:List Nat) (k:List (Nat×Option SB)->Option ρ),∃l:List (Nat×Option SB),uh kh h ns k=k l/\∀n,jI l n=if n∈ns then h n else none
 |[],k=>⟨[],rfl,fun s=>by simp[jI]⟩
 |a::ns,k=>by
  have cr:∀v:Option SB,h a=v->(∀k':List (Nat×Option SB)->Option ρ,∃l,uh kh h ns k'=k' l/\∀s,jI l s=if s∈ns then h s else none)->
    ∃l:List (Nat×Option SB),uh kh h ns (fun l=>k ((a,v)::l))=k l/\∀s,jI l s=if s∈a::ns then h s else none:=by
   intro v hv ih
   obtain⟨l,h1,h2⟩:=ih fun l=>k ((a,v)::l)
   refine⟨(a,v)::l,h1,fun s=>?_⟩
   simp only[jI,jg]
   split
   ·rename_i e
    subst e
    rw[if_pos (by simp)]
    exact hv.symm
   ·rename_i ax
    rw[h2 s]
    by_cases hs:s∈ns
    ·rw[if_pos hs,if_pos (by simp[hs])]
    ·rw[if_neg hs,if_neg (by simp[hs,ax])]
  have ih:=fun k':List (Nat×Option SB)->Option ρ=>Xv kh h ns k'
  simp only[uh]
  split
  ·rename_i hv
   obtain⟨l,h1,h2⟩:=ih k
   refine⟨l,h1,fun s=>?_⟩
   rw[h2 s]
   by_cases hs:s∈ns
   ·rw[if_pos hs,if_pos (by simp[hs])]
   ·rw[if_neg hs]
    by_cases wC:s=a
    ·subst wC;rw[if_pos (by simp),hv]
    ·rw[if_neg (by simp[hs,wC])]
  ·rename_i cs hv
   rw[NO]
   exact cr _ hv ih
  ·rename_i gr m ts xs hv
   exact cr _ hv ih
theorem NP (u:Nat->Bool) (hp:∀n,u n=false->Nat.ble aH n=false):∀(ns:List Nat) (k:List Nat->Option ρ),∃l:List Nat,yr u ns k=k l/\∀n,vq l n=if n∈ns then u n else Nat.ble aH n
 |[],k=>⟨[],rfl,fun s=>by simp[vq]⟩
 |a::ns,k=>by
  simp only[yr]
  split
  ·rename_i hv
   obtain⟨l,h1,h2⟩:=NP u hp ns fun l=>k (a::l)
   refine⟨a::l,h1,fun s=>?_⟩
   simp only[vq]
   split
   ·rename_i e
    have:=Nat.eq_of_beq_eq_true e
    subst this
    rw[if_pos (by simp)]
    exact hv.symm
   ·rename_i e
    have ax:=w6 e
    rw[h2 s]
    by_cases hs:s∈ns
    ·rw[if_pos hs,if_pos (by simp[hs])]
    ·rw[if_neg hs,if_neg (by simp[hs,ax])]
  ·rename_i hv
   obtain⟨l,h1,h2⟩:=NP u hp ns k
   refine⟨l,h1,fun s=>?_⟩
   rw[h2 s]
   by_cases hs:s∈ns
   ·rw[if_pos hs,if_pos (by simp[hs])]
   ·rw[if_neg hs]
    by_cases wC:s=a
    ·subst wC;rw[if_pos (by simp),hv,hp _ hv]
    ·rw[if_neg (by simp[hs,wC])]
theorem Il {ke kh:List Nat} {σ:ah} (W:g9 ke kh σ) (k:ah->Option ρ):σ.As ke kh k=k σ:=by
 unfold ah.As
 obtain⟨le,e1,e2⟩:=Xu kh σ.env ke fun le=>uh kh σ.h kh fun lh=>yr σ.used kh fun lu=>k ⟨lm le,jI lh,vq lu⟩
 rw[e1]
 obtain⟨lh,h1,h2⟩:=Xv kh σ.h kh fun lh=>yr σ.used kh fun lu=>k ⟨lm le,jI lh,vq lu⟩
 rw[h1]
 obtain⟨lu,u1,u2⟩:=NP σ.used W.p kh fun lu=>k ⟨lm le,jI lh,vq lu⟩
 rw[u1]
 have a1:lm le=σ.env:=by
  funext s
  rw[e2 s]
  split
  ·rfl
  ·rename_i hs;exact(W.e s hs).symm
 have a2:jI lh=σ.h:=by
  funext s
  rw[h2 s]
  split
  ·rfl
  ·rename_i hs;exact(W.h s hs).symm
 have a3:vq lu=σ.used:=by
  funext s
  rw[u2 s]
  split
  ·rfl
  ·rename_i hs;exact(W.u s hs).symm
 rw[a1,a2,a3]
theorem g9.gY (ke kh:List Nat) (σ:ah):g9 ke kh (σ.gY ke kh):=
 ⟨fun s hs=>Ux _ _ _ s hs,fun n hn=>Uy _ _ _ n hn,fun n hn=>by show(Nat.ble aH n||rP _ _ n)=_;rw[Uz _ _ n hn,Bool.or_false],
  fun n hn=>by have bm:(Nat.ble aH n||rP _ _ n)=false:=hn;simp only[Bool.or_eq_false_iff] at bm;exact bm.1⟩
theorem g9.aX {ke kh:List Nat} {σ σ1:ah} {a c:Nat} (W:g9 ke kh σ) (hc:c∈kh) (h:σ.aX a c=some σ1):g9 ke kh σ1:=by
 unfold ah.aX at h
 split at h
 ·injection h with h;subst h;exact W
 ·split at h
  ·injection h with h;subst h;exact W
  ·rename_i wB
   split at h
   ·cases h
   ·rename_i IU
    injection h with h
    subst h
    refine⟨fun s hs=>?_,fun n hn=>?_,fun n hn=>?_,fun n hn=>?_⟩
    ·show(σ.env s).aX a c=_
     rw[W.e s hs];rfl
    ·simp only
     split
     ·rename_i e;exact absurd (by rw[Nat.eq_of_beq_eq_true e];exact hc) hn
     ·split
      ·rfl
      ·rw[W.h n hn];rfl
    ·simp only
     split
     ·rename_i e;exact absurd (by rw[Nat.eq_of_beq_eq_true e];exact hc) hn
     ·split
      ·rename_i e;rw[Nat.eq_of_beq_eq_true e,wB]
      ·exact W.u n hn
    ·simp only at hn
     split at hn
     ·rename_i e;rw[Nat.eq_of_beq_eq_true e];exact W.p c IU
     ·split at hn
      ·rename_i e;rw[Nat.eq_of_beq_eq_true e,wB]
      ·exact W.p n hn
theorem g9.ins {ke kh:List Nat} {σ σ1:ah} {c:Nat} {b:SB} (W:g9 ke kh σ) (hc:c∈kh) (h:σ.ins c b=some σ1):g9 ke kh σ1:=by
 unfold ah.ins at h
 split at h
 ·cases h
 ·rename_i IU
  injection h with h
  subst h
  refine⟨W.e,fun n hn=>?_,fun n hn=>?_,fun n hn=>?_⟩
  ·show aw σ.h c _ n=_
   rw[bZ _ _ _ _ (fun e=>hn (by rw[e];exact hc))];exact W.h n hn
  ·show aw σ.used c _ n=_
   rw[bZ _ _ _ _ (fun e=>hn (by rw[e];exact hc))];exact W.u n hn
  ·have bm:aw σ.used c true n=false:=hn
   by_cases e:n=c
   ·subst e;rw[bA] at bm;cases bm
   ·rw[bZ _ _ _ _ e] at bm;exact W.p n bm
theorem g9.jC {ke kh:List Nat} {σ:ah} (W:g9 ke kh σ) (c:Nat) (m:Mode):g9 ke kh (σ.jC c m):=by
 cases m with
 |live=>exact W
 |ab=>exact W
 |aA=>
  simp only[ah.jC]
  split
  ·rename_i gr ts xs hn
   exact⟨W.e,fun n hk=>by
    show aw σ.h c _ n=none
    have pO:n≠c:=fun e=>by subst e;rw[W.h n hk] at hn;cases hn
    rw[bZ _ _ _ _ pO];exact W.h n hk,W.u,W.p⟩
  ·exact W
theorem g9.E6 {ke kh:List Nat} {σ σ1:ah} {a c:Nat} {m:Mode} (W:g9 ke kh σ) (hc:c∈kh) (h:(σ.aX a c).map (fun σ1=>σ1.jC c m)=some σ1):g9 ke kh σ1:=by
 rw[Option.map_eq_some_iff] at h
 obtain⟨σ2,e,rfl⟩:=h
 exact(W.aX hc e).jC c m
theorem g9.canon {ke kh:List Nat} {σ σ1:ah} {x:Bool×Nat×Nat×Nat×Mode×List Ty} (W:g9 ke kh σ) (hc:x.2.2.2.1∈kh) (h:xm σ x=some σ1):g9 ke kh σ1:=by
 obtain⟨b,n,j,c,m,us⟩:=x
 simp only at hc
 have fM:some σ=some σ1->g9 ke kh σ1:=fun h=>by injection h with h;subst h;exact W
 cases b with
 |true=>
  simp only[xm] at h
  split at h
  ·rename_i cs hn
   split at h
   ·exact W.E6 hc h
   ·split at h
    ·exact fM h
    ·split at h
     ·rename_i σ2 e
      injection h with h
      subst h
      have W2:=W.ins hc e
      have OH:n∈kh:=by
       rcases Decidable.em (n∈kh) with h|h
       ·exact h
       ·rw[W.h n h] at hn;cases hn
      exact⟨W2.e,fun q hq=>by show aw σ2.h n _ q=_;rw[bZ _ _ _ _ (fun e=>hq (by rw[e];exact OH))];exact W2.h q hq,W2.u,W2.p⟩
     ·cases h
   ·exact fM h
  ·exact fM h
 |false=>
  simp only[xm] at h
  split at h
  ·exact W.E6 hc h
  ·rename_i ts hn
   split at h
   ·exact fM h
   ·split at h
    ·rename_i σ2 e
     injection h with h
     subst h
     have W2:=W.ins hc e
     have OH:n∈ke:=by
      rcases Decidable.em (n∈ke) with h|h
      ·exact h
      ·rw[W.e n h] at hn;cases hn
     exact⟨fun q hq=>by show aw σ2.env n _ q=_;rw[bZ _ _ _ _ (fun e=>hq (by rw[e];exact OH))];exact W2.e q hq,W2.h,W2.u,W2.p⟩
    ·cases h
  ·exact fM h
def KM (ke kh:List Nat):Cn->ah->(ah->Option ρ)->Option ρ
 |[],σ,k=>k σ
 |x::l,σ,k=>match xm σ x with
  |some σ1=>match List.elem x.2.2.2.1 kh with
   |true=>σ1.As ke kh fun σ2=>KM ke kh l σ2 k
   |false=>none
  |none=>none
theorem abk {ke kh:List Nat}:∀{cn:Cn} {σ:ah} {k:ah->Option ρ} {r:ρ},g9 ke kh σ->KM ke kh cn σ k=some r->∃σ1,Cj σ cn=some σ1/\k σ1=some r
 |[],σ,k,r,W,h=>⟨σ,rfl,h⟩
 |x::l,σ,k,r,W,h=>by
  simp only[KM] at h
  split at h
  ·rename_i σ1 e
   split at h
   ·rename_i hm
    have W1:=W.canon (by simpa using hm) e
    rw[Il W1] at h
    obtain⟨σ2,h1,h2⟩:=abk W1 h
    exact⟨σ2,by simp only[Cj,e,h1],h2⟩
   ·cases h
  ·cases h
def Cm (sh:jk) (kh:List Nat) (cn:Cn) (σ:ah) (k:sh.L.D->Option ρ):Option ρ:=
 (σ.gY sh.ke kh).As sh.ke kh fun σ1=>(σ1.gY sh.ke kh).As sh.ke kh fun σ2=>KM sh.ke kh cn σ2 fun gz=>(gz.gY sh.ke kh).As sh.ke kh fun σ4=>sh.flat kh σ4 k
theorem KQ {sh:jk} {kh:List Nat} {cn:Cn} {σ:ah} {k:sh.L.D->Option ρ} {r:ρ} (h:Cm sh kh cn σ k=some r):
  ∃x,σ.er.head sh.ke kh cn.er=some (sh.un x).er/\k x=some r:=by
 unfold Cm at h
 rw[Il (g9.gY _ _ _),Il (g9.gY _ _ _)] at h
 obtain⟨σ1,e,h⟩:=abk (g9.gY _ _ _) h
 rw[Il (g9.gY _ _ _)] at h
 obtain⟨x,h1,h2⟩:=jk.oK h (fun s hs=>Ux _ _ _ s hs) (fun n hn=>⟨Uy _ _ _ n hn,by show(Nat.ble aH n||rP _ _ n)=_;rw[Uz _ _ n hn,Bool.or_false]⟩)
 have i:=abl e
 rw[ah.R5,ah.R5] at i
 exact⟨x,by simp only[St.head,i,<-h1,ah.R5],h2⟩
end
inductive bF where
 |skip
 |af (qS:Bool) (ops:List eP)
 |od (ps:List (Nat×Nat)) (ops:List eP)
 |seq (a b:bF)
 |cond (c:cB) (a b:bF)
 |block (id:Nat) (c:bF)
 |join (sh:jk) (kh:List Nat) (cn:Cn) (c:bF)
 |loop (id:Nat) (sh:jk) (kh:List Nat) (cn:Cn) (c:bF)
 |exit (id:Nat)
 |ret
def bF.er:bF->kY
 |.skip=>.skip
 |.af d ops=>.af d (ops.map eP.er)
 |.od ps ops=>.od ps (ops.map eP.er)
 |.seq a b=>.seq a.er b.er
 |.cond c a b=>.cond c.er a.er b.er
 |.block id c=>.block id c.er
 |.join sh kh cn c=>.join sh.ke kh cn.er c.er
 |.loop id sh kh cn c=>.loop id sh.ke kh cn.er c.er
 |.exit id=>.exit id
 |.ret=>.ret
def ah.Qp (σ:ah) (c:cB) (b:Bool):ah:=
 match c with
 |.t n=>σ.lit n b
 |.k _=>σ
def wM {X ρ:Type} (o:Option ρ):Option (X⊕ρ):=o.aa fun r=>some (.inr r)
theorem Bj {X ρ:Type} {o:Option ρ} {s:X⊕ρ} (h:wM o=some s):∃r,o=some r/\s=.inr r:=by
 unfold wM at h
 rw[eR] at h
 obtain⟨r,h1,h2⟩:=h
 injection h2 with h2
 exact⟨r,h1,h2.symm⟩
def kN (N:Nat) (T:List aI):bF->{ρ:Type}->ah->(ah->Option ρ)->(Nat->ah->Option ρ)->(ah->Option ρ)->Option ρ
 |.skip,_,σ,k,_,_=>k σ
 |.af _ ops,_,σ,k,_,_=>qD T ops σ k
 |.od ps ops,_,σ,k,_,_=>qE T ps ops [] σ k
 |.seq a b,_,σ,k,ex,kr=>kN N T a σ (fun σ1=>kN N T b σ1 k ex kr) ex kr
 |.cond c a b,_,σ,k,ex,kr=>match σ.ev c with
  |.one (.v .bool t)=>aJ t (kN N T a (σ.Qp c true) k ex kr) (kN N T b (σ.Qp c false) k ex kr)
  |_=>none
 |.block id c,_,σ,k,ex,kr=>kN N T c σ k (fun i σ1=>match Nat.beq i id with|true=>k σ1|false=>ex i σ1) kr
 |.join sh kh cn c,ρ,σ,k,ex,kr=>
  bO (kN N T c (ρ:=sh.L.D⊕ρ) σ (fun σ1=>Cm sh kh cn σ1 fun x=>some (.inl x)) (fun i σ1=>wM (ex i σ1)) (fun σ1=>wM (kr σ1))) fun x=>k (sh.un x)
 |.loop id sh kh cn c,ρ,σ,k,ex,kr=>
  Cm sh kh cn σ fun x0=>bg N (fun x=>kN N T c (ρ:=sh.L.D⊕ρ) (sh.un x) (fun σ1=>Cm sh kh cn σ1 fun x'=>some (.inl x')) (fun i σ1=>wM (ex i σ1)) (fun σ1=>wM (kr σ1))) x0
 |.exit id,_,σ,_,ex,_=>ex id σ
 |.ret,_,σ,_,_,kr=>kr σ
def Vp {ρ:Type} (k:ah->Option ρ) (ex:Nat->ah->Option ρ) (kr:ah->Option ρ) (r:ρ):vH->Prop
 |.fD τ=>∃dT:ah,τ=dT.er/\k dT=some r
 |.ext i τ=>∃dT:ah,τ=dT.er/\ex i dT=some r
 |.ret τ=>∃dT:ah,τ=dT.er/\kr dT=some r
theorem ZV {σ:ah} {c:cB} {b:Bool} (h:σ.ev c=.one (.v .bool b)):(σ.Qp c b).er=σ.er:=by
 cases c with
 |t n=>exact ah.Dl h
 |k v=>rfl
theorem rO {T:List aI}:∀(m:bF) {ρ:Type} {σ:ah} {k:ah->Option ρ} {ex:Nat->ah->Option ρ} {kr:ah->Option ρ} {r:ρ},kN aB T m σ k ex kr=some r->
    ∃o:vH,dI (de T) m.er σ.er=some o/\Vp k ex kr r o
  |.skip,ρ,σ,k,ex,kr,r,h=>⟨.fD σ.er,rfl,σ,rfl,h⟩
  |.af d ops,ρ,σ,k,ex,kr,r,h=>by
   obtain⟨σ1,h1,h2⟩:=Ua (h:qD T ops σ k=some r)
   exact⟨.fD σ1.er,by simp only[bF.er,dI,h1],σ1,rfl,h2⟩
  |.od ps ops,ρ,σ,k,ex,kr,r,h=>by
   obtain⟨σ1,fs,h1,h2,h3⟩:=T9 (h:qE T ps ops [] σ k=some r)
   exact⟨.fD σ1.er,by simp only[bF.er,dI,h1,h2,cond_true],σ1,rfl,h3⟩
  |.seq a b,ρ,σ,k,ex,kr,r,h=>by
   obtain⟨o,h1,h2⟩:=rO a (h:kN aB T a σ (fun σ1=>kN aB T b σ1 k ex kr) ex kr=some r)
   cases o with
   |fD τ=>
    obtain⟨dT,rfl,h2⟩:=h2
    obtain⟨o2,h3,h4⟩:=rO b h2
    exact⟨o2,by simp only[bF.er,dI,h1,h3],h4⟩
   |ext i τ=>exact⟨.ext i τ,by simp only[bF.er,dI,h1],h2⟩
   |ret τ=>exact⟨.ret τ,by simp only[bF.er,dI,h1],h2⟩
  |.cond c a b,ρ,σ,k,ex,kr,r,h=>by
   simp only[kN] at h
   split at h
   · rename_i t hc
     have cj:σ.er.ev c.er=.one (.c (.bool t)):=by rw[ah.c8,hc];rfl
     cases ht:(t:Bool) with
     |true=>
      rw[ht] at h
      simp only[Ag] at h
      obtain⟨o,h1,h2⟩:=rO a h
      rw[ZV (by rw[hc,ht])] at h1
      exact⟨o,by simp only[bF.er,dI,cj,ht,if_true,h1],h2⟩
     |false=>
      rw[ht] at h
      simp only[HO] at h
      obtain⟨o,h1,h2⟩:=rO b h
      rw[ZV (by rw[hc,ht])] at h1
      exact⟨o,by simp only[bF.er,dI,cj,ht,Bool.false_eq_true,if_false,h1],h2⟩
   · cases h
  |.block id c,ρ,σ,k,ex,kr,r,h=>by
   obtain⟨o,h1,h2⟩:=rO c (h:kN aB T c σ k (fun i σ1=>match Nat.beq i id with|true=>k σ1|false=>ex i σ1) kr=some r)
   cases o with
   |fD τ=>exact⟨.fD τ,by simp only[bF.er,dI,h1],h2⟩
   |ret τ=>exact⟨.ret τ,by simp only[bF.er,dI,h1],h2⟩
   |ext i τ=>
    obtain⟨dT,rfl,h2⟩:=h2
    simp only at h2
    split at h2
    · rename_i e
      exact⟨.fD dT.er,by simp only[bF.er,dI,h1,if_pos (Nat.eq_of_beq_eq_true e)],dT,rfl,h2⟩
    · rename_i e
      exact⟨.ext i dT.er,by simp only[bF.er,dI,h1,if_neg (w6 e)],dT,rfl,h2⟩
  |.join sh kh cn c,ρ,σ,k,ex,kr,r,h=>by
   simp only[kN,bO,Option.bind_eq_some_iff] at h
   obtain⟨s,hs,h⟩:=h
   obtain⟨o,h1,h2⟩:=rO c hs
   cases o with
   |fD τ=>
    obtain⟨dT,rfl,h2⟩:=h2
    obtain⟨x,h3,h4⟩:=KQ h2
    injection h4 with h4
    subst h4
    exact⟨.fD (sh.un x).er,by simp only[bF.er,dI,h1,h3],sh.un x,rfl,h⟩
   |ext i τ=>
    obtain⟨dT,rfl,h2⟩:=h2
    obtain⟨y,h3,rfl⟩:=Bj h2
    injection h with h
    subst h
    exact⟨.ext i dT.er,by simp only[bF.er,dI,h1],dT,rfl,h3⟩
   |ret τ=>
    obtain⟨dT,rfl,h2⟩:=h2
    obtain⟨y,h3,rfl⟩:=Bj h2
    injection h with h
    subst h
    exact⟨.ret dT.er,by simp only[bF.er,dI,h1],dT,rfl,h3⟩
  |.loop id sh kh cn c,ρ,σ,k,ex,kr,r,h=>by
   simp only[kN] at h
   obtain⟨x0,h0,h⟩:=KQ h
   simp only[bF.er,dI]
   have cr:∀(n:Nat) (x0:sh.L.D) (Lu:St),Lu.head sh.ke kh cn.er=some (sh.un x0).er->
       bg n (fun x=>kN aB T c (ρ:=sh.L.D⊕ρ) (sh.un x) (fun σ1=>Cm sh kh cn σ1 fun x'=>some (.inl x')) (fun i σ1=>wM (ex i σ1)) (fun σ1=>wM (kr σ1))) x0=some r->
       ∃o:vH,BQ n (fun σ=>match σ.head sh.ke kh cn.er with|some σ1=>dI (de T) c.er σ1|none=>none) Lu=some o/\Vp k ex kr r o:=by
    intro n
    induction n with
    |zero=>intro x0 Lu h0 h;simp[bg] at h
    |succ n ih=>
     intro x0 Lu h0 h
     simp only[bg] at h
     simp only[BQ,h0]
     split at h
     · rename_i x' hb
       obtain⟨o,h1,h2⟩:=rO c hb
       cases o with
       |fD τ=>
        obtain⟨dT,rfl,h2⟩:=h2
        obtain⟨x2,h3,h4⟩:=KQ h2
        injection h4 with h4
        injection h4 with h4
        subst h4
        simp only[h1]
        exact ih x2 _ h3 h
       |ext i τ=>
        obtain⟨dT,rfl,h2⟩:=h2
        obtain⟨y,_,e⟩:=Bj h2
        cases e
       |ret τ=>
        obtain⟨dT,rfl,h2⟩:=h2
        obtain⟨y,_,e⟩:=Bj h2
        cases e
     · rename_i y hb
       injection h with h
       subst h
       obtain⟨o,h1,h2⟩:=rO c hb
       cases o with
       |fD τ=>
        obtain⟨dT,rfl,h2⟩:=h2
        obtain⟨x2,h3,h4⟩:=KQ h2
        injection h4 with h4
        cases h4
       |ext i τ=>
        obtain⟨dT,rfl,h2⟩:=h2
        obtain⟨y',h3,e⟩:=Bj h2
        injection e with e
        subst e
        exact⟨.ext i dT.er,by simp only[h1],dT,rfl,h3⟩
       |ret τ=>
        obtain⟨dT,rfl,h2⟩:=h2
        obtain⟨y',h3,e⟩:=Bj h2
        injection e with e
        subst e
        exact⟨.ret dT.er,by simp only[h1],dT,rfl,h3⟩
     · cases h
   exact cr aB x0 σ.er h0 h
  |.exit id,ρ,σ,k,ex,kr,r,h=>⟨.ext id σ.er,rfl,σ,rfl,h⟩
  |.ret,ρ,σ,k,ex,kr,r,h=>⟨.ret σ.er,rfl,σ,rfl,h⟩
end Go.Am
