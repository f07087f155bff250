/- S6: heads and code of the typed evaluator. No condition. -/
import Derived.Test.YtbgmbplglejidaaS5
set_option linter.unusedVariables false
set_option linter.unusedSimpArgs false
namespace Go.Am
def SC.fi (ok:Nat->Bool):SC->SC
 |.ptr n k sz off=>match ok n with|true=>.ptr n k sz off|false=>.bn
 |.sl n sz lo len=>match ok n with|true=>.sl n sz lo len|false=>.bn
 |.bx n k aD off sz len=>match ok n with|true=>.bx n k aD off sz len|false=>.bn
 |.cN n k aD off sz i=>match ok n with|true=>.cN n k aD off sz i|false=>.bn
 |x=>x
def SC.cQ (ok:Nat->Bool):SC->SC
 |.fn f cf=>.fn f (cf.map (SC.fi ok))
 |.v t x=>.v t x
 |.nil ts=>.nil ts
 |.ptr n k sz off=>SC.fi ok (.ptr n k sz off)
 |.cj ts x off=>.cj ts x off
 |.sl n sz lo len=>SC.fi ok (.sl n sz lo len)
 |.bx n k aD off sz len=>SC.fi ok (.bx n k aD off sz len)
 |.cN n k aD off sz i=>SC.fi ok (.cN n k aD off sz i)
 |.bn=>.bn
theorem SC.C1 (ok:Nat->Bool) (c:SC):(c.fi ok).er=c.er.fi ok:=by
 cases c with
 |ptr n k sz off=>simp only[SC.fi,SC.er,ah.fi];cases ok n<;>rfl
 |sl n sz lo len=>simp only[SC.fi,SC.er,ah.fi];cases ok n<;>rfl
 |bx n k aD off sz len=>simp only[SC.fi,SC.er,ah.fi];cases ok n<;>rfl
 |cN n k aD off sz i=>simp only[SC.fi,SC.er,ah.fi];cases ok n<;>rfl
 |_=>rfl
theorem SC.Ax (ok:Nat->Bool) (c:SC):(c.cQ ok).er=c.er.cQ ok:=by
 cases c with
 |fn f cf=>
  simp only[SC.cQ,SC.er,ah.cQ,SC.Di,List.map_map]
  congr 1
  exact List.map_congr_left fun c _=>SC.C1 ok c
 |ptr n k sz off=>exact SC.C1 ok (.ptr n k sz off)
 |sl n sz lo len=>exact SC.C1 ok (.sl n sz lo len)
 |bx n k aD off sz len=>exact SC.C1 ok (.bx n k aD off sz len)
 |cN n k aD off sz i=>exact SC.C1 ok (.cN n k aD off sz i)
 |_=>rfl
def SV.cQ (ok:Nat->Bool):SV->SV
 |.one c=>.one (c.cQ ok)
 |.agg cs=>.agg (cs.map (SC.cQ ok))
 |.bo xs=>.bo (xs.map fun x=>(x.1,x.2.map (SC.cQ ok)))
theorem MH (ok:Nat->Bool) (cs:List SC):(cs.map (SC.cQ ok)).map SC.er=(cs.map SC.er).map (ah.cQ ok):=by
 simp only[List.map_map]
 exact List.map_congr_left fun c _=>SC.Ax ok c
theorem SV.Ax (ok:Nat->Bool) (v:SV):(v.cQ ok).er=v.er.cQ ok:=by
 cases v with
 |one c=>simp only[SV.cQ,SV.er,aj.cQ,SC.Ax]
 |agg cs=>simp only[SV.cQ,SV.er,aj.cQ,MH]
 |bo xs=>
  simp only[SV.cQ,SV.er,aj.cQ,List.map_map]
  congr 1
  exact List.map_congr_left fun x _=>by simp only[Function.comp];rw[MH]
def SB.cQ (ok:Nat->Bool):SB->SB
 |.box cs=>.box (cs.map (SC.cQ ok))
 |.row gr m ts xs=>.row gr m ts xs
theorem SB.Ax (ok:Nat->Bool) (b:SB):(b.cQ ok).er=b.er.cQ ok:=by
 cases b with
 |box cs=>simp only[SB.cQ,SB.er,aq.cQ,MH]
 |row gr m ts xs=>rfl
def zr (ok:Nat->Bool) (env:Nat->SV):List Nat->(Nat->SV)
 |[]=>fun _=>.one .bn
 |s::ss=>ax (zr ok env ss) s ((env s).cQ ok)
def vg (ok:Nat->Bool) (h:Nat->Option SB):List Nat->(Nat->Option SB)
 |[]=>fun _=>none
 |s::ss=>match ok s with
  |true=>match h s with
   |some b=>ax (vg ok h ss) s (some (b.cQ ok))
   |none=>vg ok h ss
  |false=>vg ok h ss
def rZ (ok:Nat->Bool):List Nat->(Nat->Bool)
 |[]=>fun _=>false
 |s::ss=>match ok s with
  |true=>ax (rZ ok ss) s true
  |false=>rZ ok ss
theorem adi (ok:Nat->Bool) (env:Nat->SV):∀l,pR (zr ok env l)=u4 ok (pR env) l
 |[]=>rfl
 |s::ss=>by simp only[zr,u4,vP,adi ok env ss,SV.Ax];rfl
theorem Kr (ok:Nat->Bool) (h:Nat->Option SB):∀l,cR (vg ok h l)=qH ok (cR h) l
 |[]=>rfl
 |s::ss=>by
  simp only[vg,qH]
  cases ok s with
  |false=>simp only[Kr ok h ss,Bool.false_eq_true,if_false]
  |true=>
   have:cR h s=(h s).map SB.er:=rfl
   simp only[if_true,this]
   cases h s with
   |none=>simp only[Option.map_none,Kr ok h ss]
   |some b=>simp only[Ik,Kr ok h ss,Option.map_some,SB.Ax]
theorem adj (ok:Nat->Bool):∀l,rZ ok l=u5 ok l
 |[]=>rfl
 |s::ss=>by
  simp only[rZ,u5]
  cases ok s<;>simp[adj ok ss]
theorem VV (ok:Nat->Bool) (env:Nat->SV):∀(l:List Nat) (s:Nat),s∉l->zr ok env l s=.one .bn
 |[],s,_=>rfl
 |a::l,s,h=>by
  simp only[List.mem_cons,not_or] at h
  simp only[zr,cb _ _ _ _ h.1,VV ok env l s h.2]
theorem VW (ok:Nat->Bool) (hp:Nat->Option SB):∀(l:List Nat) (s:Nat),s∉l->vg ok hp l s=none
 |[],s,_=>rfl
 |a::l,s,h=>by
  simp only[List.mem_cons,not_or] at h
  have ih:=VW ok hp l s h.2
  simp only[vg]
  cases ok a with
  |false=>exact ih
  |true=>
   cases hp a with
   |none=>exact ih
   |some b=>simp only[cb _ _ _ _ h.1];exact ih
theorem VX (ok:Nat->Bool):∀(l:List Nat) (s:Nat),s∉l->rZ ok l s=false
 |[],s,_=>rfl
 |a::l,s,h=>by
  simp only[List.mem_cons,not_or] at h
  have ih:=VX ok l s h.2
  simp only[rZ]
  cases ok a with
  |false=>exact ih
  |true=>simp only[cb _ _ _ _ h.1];exact ih
def SC.w9 (n:Nat):SC->Bool
 |.ptr m _ _ _=>Nat.beq m n
 |.sl m _ _ _=>Nat.beq m n
 |.bx m _ _ _ _ _=>Nat.beq m n
 |.cN m _ _ _ _ _=>Nat.beq m n
 |_=>false
def SC.gA (n:Nat):SC->Bool
 |.fn _ cf=>cf.any (SC.w9 n)
 |.ptr m _ _ _=>Nat.beq m n
 |.sl m _ _ _=>Nat.beq m n
 |.bx m _ _ _ _ _=>Nat.beq m n
 |.cN m _ _ _ _ _=>Nat.beq m n
 |.v _ _=>false
 |.nil _=>false
 |.cj _ _ _=>false
 |.bn=>false
theorem CV (m n:Nat):(m==n)=Nat.beq m n:=by
 rw[Bool.eq_iff_iff,beq_iff_eq]
 exact⟨fun h=>by rw[h];exact Nat.beq_refl n,Nat.eq_of_beq_eq_true⟩
theorem SC.aoS (n:Nat) (c:SC):c.er.w9 n=c.w9 n:=by
 cases c<;>simp[SC.er,ah.w9,SC.w9,CV]
theorem SC.JZ (n:Nat) (c:SC):c.er.gA n=c.gA n:=by
 cases c with
 |fn f cf=>
  simp only[SC.er,SC.Di,ah.gA,SC.gA,List.any_map]
  congr 1
  funext c
  exact SC.aoS n c
 |ptr m _ _ _=>exact CV m n
 |sl m _ _ _=>exact CV m n
 |bx m _ _ _ _ _=>exact CV m n
 |cN m _ _ _ _ _=>exact CV m n
 |_=>rfl
def SV.gA (n:Nat):SV->Bool
 |.one c=>c.gA n
 |.agg cs=>cs.any (SC.gA n)
 |.bo xs=>xs.any fun x=>x.2.any (SC.gA n)
theorem Ss (n:Nat) (cs:List SC):(cs.map SC.er).any (ah.gA n)=cs.any (SC.gA n):=by
 rw[List.any_map]
 congr 1
 funext c
 exact SC.JZ n c
theorem SV.JZ (n:Nat) (v:SV):v.er.gA n=v.gA n:=by
 cases v with
 |one c=>exact SC.JZ n c
 |agg cs=>exact Ss n cs
 |bo xs=>
  simp only[SV.er,aj.gA,SV.gA,List.any_map]
  congr 1
  funext x
  exact Ss n x.2
def ab4 (n:Nat):Option SB->Bool
 |some (.box cs)=>cs.any (SC.gA n)
 |_=>false
def Ij (n:Nat):List Nat->Bool
 |[]=>false
 |m::l=>match Nat.beq n m with
  |true=>true
  |false=>Ij n l
theorem Yk (n:Nat):∀l:List Nat,Ij n l=l.contains n
 |[]=>rfl
 |m::l=>by
  simp only[Ij,List.contains_cons]
  have e:(n==m)=Nat.beq n m:=by cases h:Nat.beq n m with
   |true=>simpa using Nat.eq_of_beq_eq_true h
   |false=>simp;intro h';rw[h',Nat.beq_refl] at h;cases h
  rw[e,Yk n l]
  cases Nat.beq n m<;>rfl
def af.iK (σ:af) (ke kh:List Nat):Nat->Bool:=fun n=>(σ.h n).isSome&&Ij n kh&&(Nat.ble aM n||ke.any (fun s=>(σ.env s).gA n)||kh.any fun k=>ab4 n (σ.h k))
theorem af.anq (σ:af) (ke kh:List Nat):σ.er.iK ke kh=σ.iK ke kh:=by
 funext n
 simp only[St.iK,af.iK]
 have h1:(σ.er.h n).isSome=(σ.h n).isSome:=Yr σ.h n
 have h2:(fun s=>(σ.er.env s).gA n)=fun s=>(σ.env s).gA n:=by funext s;exact SV.JZ n _
 have h3:(fun k=>match σ.er.h k with|some (.box cs)=>cs.any (·.gA n)|_=>false)=fun k=>ab4 n (σ.h k):=by
  funext k
  have:σ.er.h k=(σ.h k).map SB.er:=rfl
  rw[this]
  cases σ.h k with
  |none=>rfl
  |some b=>cases b with
   |box cs=>exact Ss n cs
   |row gr m ts xs=>rfl
 rw[h1,h2,Yk,Bool.and_comm (x:=(σ.h n).isSome)]
 exact congrArg (fun g:Nat->Bool=>(kh.contains n&&(σ.h n).isSome&&((Nat.ble aM n||ke.any fun s=>SV.gA n (σ.env s))||kh.any g))) h3
def af.h9 (σ:af) (ke kh:List Nat):af:=
 {env:=zr (σ.iK ke kh) σ.env ke,h:=vg (σ.iK ke kh) σ.h kh,used:=fun n=>Nat.ble aM n||rZ (σ.iK ke kh) kh n}
theorem af.Sz (σ:af) (ke kh:List Nat):(σ.h9 ke kh).er=σ.er.h9 ke kh:=by
 simp only[af.h9,St.h9,af.anq]
 have e1:=adi (σ.iK ke kh) σ.env ke
 have e2:=Kr (σ.iK ke kh) σ.h kh
 have e3:=adj (σ.iK ke kh) kh
 show St.mk (pR (zr (σ.iK ke kh) σ.env ke)) (cR (vg (σ.iK ke kh) σ.h kh)) (fun n=>Nat.ble aM n||rZ (σ.iK ke kh) kh n)=_
 rw[e1,e2,e3]
 rfl
def tu (x c n:Nat):Nat:=match Nat.beq n x with|true=>c|false=>n
theorem Fp (x c n:Nat):tu x c n=nu x c n:=by
 unfold tu nu
 cases h:Nat.beq n x with
 |true=>rw[if_pos (Nat.eq_of_beq_eq_true h)]
 |false=>rw[if_neg (fun e=>by rw[e,Nat.beq_refl] at h;cases h)]
def SC.ot (x c:Nat):SC->SC
 |.ptr n k sz off=>.ptr (tu x c n) k sz off
 |.sl n sz lo len=>.sl (tu x c n) sz lo len
 |.bx n k aD off sz len=>.bx (tu x c n) k aD off sz len
 |.cN n k aD off sz i=>.cN (tu x c n) k aD off sz i
 |y=>y
def SC.ba (x c:Nat):SC->SC
 |.fn f cf=>.fn f (cf.map (SC.ot x c))
 |.ptr n k sz off=>.ptr (tu x c n) k sz off
 |.sl n sz lo len=>.sl (tu x c n) sz lo len
 |.bx n k aD off sz len=>.bx (tu x c n) k aD off sz len
 |.cN n k aD off sz i=>.cN (tu x c n) k aD off sz i
 |.v t y=>.v t y
 |.nil ts=>.nil ts
 |.cj ts y off=>.cj ts y off
 |.bn=>.bn
theorem SC.aoW (x c:Nat) (y:SC):(y.ot x c).er=y.er.ot x c:=by
 cases y<;>simp[SC.ot,SC.er,ah.ot,Fp]
theorem SC.xc (x c:Nat) (y:SC):(y.ba x c).er=y.er.ba x c:=by
 cases y with
 |fn f cf=>
  simp only[SC.ba,SC.er,ah.ba,SC.Di,List.map_map]
  congr 1
  exact List.map_congr_left fun y _=>SC.aoW x c y
 |ptr n k sz off=>simp only[SC.ba,SC.er,ah.ba,ah.ot,Fp]
 |sl n sz lo len=>simp only[SC.ba,SC.er,ah.ba,ah.ot,Fp]
 |bx n k aD off sz len=>simp only[SC.ba,SC.er,ah.ba,ah.ot,Fp]
 |cN n k aD off sz i=>simp only[SC.ba,SC.er,ah.ba,ah.ot,Fp]
 |_=>rfl
theorem Sw (x c:Nat) (cs:List SC):(cs.map (SC.ba x c)).map SC.er=(cs.map SC.er).map (ah.ba x c):=by
 simp only[List.map_map]
 exact List.map_congr_left fun y _=>SC.xc x c y
def SV.ba (x c:Nat):SV->SV
 |.one y=>.one (y.ba x c)
 |.agg ys=>.agg (ys.map (SC.ba x c))
 |.bo ys=>.bo (ys.map fun y=>(y.1,y.2.map (SC.ba x c)))
theorem SV.xc (x c:Nat) (v:SV):(v.ba x c).er=v.er.ba x c:=by
 cases v with
 |one y=>simp only[SV.ba,SV.er,aj.ba,SC.xc]
 |agg cs=>simp only[SV.ba,SV.er,aj.ba,Sw]
 |bo xs=>
  simp only[SV.ba,SV.er,aj.ba,List.map_map]
  congr 1
  exact List.map_congr_left fun y _=>by simp only[Function.comp];rw[Sw]
def SB.ba (x c:Nat):SB->SB
 |.box cs=>.box (cs.map (SC.ba x c))
 |.row gr m ts xs=>.row gr m ts xs
theorem SB.xc (x c:Nat) (b:SB):(b.ba x c).er=b.er.ba x c:=by
 cases b with
 |box cs=>simp only[SB.ba,SB.er,aq.ba,Sw]
 |row gr m ts xs=>rfl
def af.ba (σ:af) (x c:Nat):Option af:=
  match Nat.beq x c with
  |true=>some σ
  |false=>match Nat.ble aM x with
   |true=>some σ
   |false=>match σ.used c with
    |true=>none
    |false=>some
     {env:=fun s=>(σ.env s).ba x c
      h:=fun n=>match Nat.beq n c with
        |true=>(σ.h x).map (SB.ba x c)
        |false=>match Nat.beq n x with
         |true=>none
         |false=>(σ.h n).map (SB.ba x c)
      used:=fun n=>match Nat.beq n c with
        |true=>σ.used x
        |false=>match Nat.beq n x with
         |true=>false
         |false=>σ.used n}
theorem wU {m n:Nat} (h:Nat.beq m n=false):m≠n:=fun e=>by rw[e,Nat.beq_refl] at h;cases h
theorem af.xc {σ σ1:af} {x c:Nat} (h:σ.ba x c=some σ1):σ.er.ba x c=some σ1.er:=by
 unfold af.ba at h
 split at h
 ·rename_i e
  injection h with h
  subst h
  simp[St.ba,Nat.eq_of_beq_eq_true e]
 ·rename_i e
  split at h
  ·rename_i hx
   injection h with h
   subst h
   simp only[St.ba,if_neg (wU e),hx,if_true]
  rename_i hx
  split at h
  ·cases h
  ·rename_i hu
   injection h with h
   subst h
   have mE:σ.er.used c=false:=hu
   simp only[St.ba,if_neg (wU e),hx,mE,Bool.false_eq_true,if_false]
   congr 1
   have mm:∀o:Option SB,(o.map (SB.ba x c)).map SB.er=(o.map SB.er).map (·.ba x c):=by
    intro o;cases o with
    |none=>rfl
    |some b=>simp only[Option.map_some,SB.xc]
   have e1:(fun s=>(σ.er.env s).ba x c)=pR (fun s=>(σ.env s).ba x c):=by
    funext s;exact(SV.xc x c (σ.env s)).symm
   have e2:(fun n=>if n=c then(σ.er.h x).map (·.ba x c) else if n=x then none else(σ.er.h n).map (·.ba x c))=cR (fun n=>match Nat.beq n c with
     |true=>(σ.h x).map (SB.ba x c)
     |false=>match Nat.beq n x with
      |true=>none
      |false=>(σ.h n).map (SB.ba x c)):=by
    funext n
    simp only[cR]
    cases hc:Nat.beq n c with
    |true=>rw[if_pos (Nat.eq_of_beq_eq_true hc)];exact(mm (σ.h x)).symm
    |false=>
     rw[if_neg (wU hc)]
     cases hx:Nat.beq n x with
     |true=>rw[if_pos (Nat.eq_of_beq_eq_true hx)];rfl
     |false=>rw[if_neg (wU hx)];exact(mm (σ.h n)).symm
   have e3:(fun n=>if n=c then σ.er.used x else if n=x then false else σ.er.used n)=(fun n=>match Nat.beq n c with
     |true=>σ.used x
     |false=>match Nat.beq n x with
      |true=>false
      |false=>σ.used n):=by
    funext n
    cases hc:Nat.beq n c with
    |true=>rw[if_pos (Nat.eq_of_beq_eq_true hc)];rfl
    |false=>
     rw[if_neg (wU hc)]
     cases hx:Nat.beq n x with
     |true=>rw[if_pos (Nat.eq_of_beq_eq_true hx)]
     |false=>rw[if_neg (wU hx)];rfl
   rw[e1,e2,e3]
   rfl
abbrev Cn:=List (Bool×Nat×Nat×Nat×Mode×List Ty)
def Cn.er (cn:Cn):List (Bool×Nat×Nat×Nat×Mode):=cn.map fun x=>(x.1,x.2.1,x.2.2.1,x.2.2.2.1,x.2.2.2.2.1)
def af.jH (σ:af) (c:Nat):Mode->af
 |.aO=>match σ.h c with
  |some (.row gr .ab ts xs)=>σ.du c (.row gr .aO ts xs)
  |_=>σ
 |_=>σ
theorem af.afv (σ:af) (c:Nat) (m:Mode):(σ.jH c m).er=σ.er.jH c m:=by
 cases m with
 |live=>rfl
 |ab=>rfl
 |aO=>
  simp only[af.jH,St.jH]
  have hh:σ.er.h c=(σ.h c).map SB.er:=rfl
  rw[hh]
  cases σ.h c with
  |none=>rfl
  |some b=>cases b with
   |box cs=>rfl
   |row gr m ts xs=>cases m with
    |ab=>simp only[Option.map_some,SB.er,af.oJ]
    |live=>rfl
    |aO=>rfl
def xi (σ:af):Bool×Nat×Nat×Nat×Mode×List Ty->Option af
 |(true,n,j,c,m,us)=>match σ.h n with
  |some (.box cs)=>match cs[j]? with
   |some (.sl a _ _ _)=>(σ.ba a c).map fun σ1=>σ1.jH c m
   |some (.nil ts)=>match ts with
    |[]=>some σ
    |t::ts=>match σ.ins c (.row true m (t::ts) []) with
     |some σ1=>some (σ1.du n (.box (cs.set j (.sl c (t::ts).length 0 0))))
     |none=>none
   |_=>some σ
  |_=>some σ
 |(false,n,j,c,m,us)=>match σ.env n with
  |.one (.sl a _ _ _)=>(σ.ba a c).map fun σ1=>σ1.jH c m
  |.one (.nil ts)=>match ts with
   |[]=>some σ
   |t::ts=>match σ.ins c (.row true m (t::ts) []) with
    |some σ1=>some (σ1.put (some n) (.one (.sl c (t::ts).length 0 0)))
    |none=>none
  |_=>some σ
theorem adh {σ σ1:af} {a c:Nat} {m:Mode} (h:(σ.ba a c).map (fun σ1=>σ1.jH c m)=some σ1):(σ.er.ba a c).map (fun σ1=>σ1.jH c m)=some σ1.er:=by
 rw[Option.map_eq_some_iff] at h
 obtain⟨σ2,e,rfl⟩:=h
 rw[af.xc e,Option.map_some,af.afv]
theorem apt {σ σ1:af} {x:Bool×Nat×Nat×Nat×Mode×List Ty} (h:xi σ x=some σ1):σ.er.canon (x.1,x.2.1,x.2.2.1,x.2.2.2.1,x.2.2.2.2.1)=some σ1.er:=by
 obtain⟨b,n,j,c,m,us⟩:=x
 cases b with
 |true=>
  simp only[xi] at h
  simp only[St.canon]
  have hh:σ.er.h n=(σ.h n).map SB.er:=rfl
  rw[hh]
  split at h
  ·rename_i cs hn
   simp only[hn,Option.map_some,SB.er,List.getElem?_map]
   split at h
   ·rename_i a _ _ _ hj
    simp only[hj,Option.map_some,SC.er]
    exact adh h
   ·rename_i ts hj
    simp only[hj,Option.map_some,SC.er]
    split at h
    ·injection h with h;subst h;rfl
    ·rename_i t ts
     split at h
     ·rename_i σ2 e
      injection h with h
      subst h
      have i:=af.sH e
      rw[show(SB.row true m (t::ts) []).er=aq.row true m (t::ts).length [] from rfl] at i
      simp only[List.length_cons,Nat.zero_lt_succ,if_true] at i⊢
      rw[i]
      simp only[af.oJ,SB.er,List.map_set,SC.er,List.length_cons]
     ·cases h
   ·rename_i hs hz
    injection h with h
    subst h
    cases hj:cs[j]? with
    |none=>rfl
    |some y=>cases y<;>first|rfl|(exfalso;exact hs _ _ _ _ hj)|(exfalso;exact hz _ hj)
  ·rename_i hb
   injection h with h
   subst h
   cases hn:σ.h n with
   |none=>rfl
   |some b=>cases b with
    |box cs=>exact absurd hn (hb cs)
    |row gr m ts xs=>rfl
 |false=>
  simp only[xi] at h
  simp only[St.canon]
  have hh:σ.er.env n=(σ.env n).er:=rfl
  rw[hh]
  split at h
  ·rename_i a _ _ _ hn
   simp only[hn,SV.er,SC.er]
   exact adh h
  ·rename_i ts hn
   simp only[hn,SV.er,SC.er]
   split at h
   ·injection h with h;subst h;rfl
   ·rename_i t ts
    split at h
    ·rename_i σ2 e
     injection h with h
     subst h
     have i:=af.sH e
     rw[show(SB.row true m (t::ts) []).er=aq.row true m (t::ts).length [] from rfl] at i
     simp only[List.length_cons,Nat.zero_lt_succ,if_true] at i⊢
     rw[i]
     simp only[af.dn,SV.er,SC.er,List.length_cons]
    ·cases h
  ·rename_i hs hz
   injection h with h
   subst h
   cases hn:σ.env n with
   |one y=>cases y<;>first|rfl|(exfalso;exact hs _ _ _ _ hn)|(exfalso;exact hz _ hn)
   |_=>rfl
def B9 (σ:af):Cn->Option af
 |[]=>some σ
 |x::l=>match xi σ x with
  |some σ1=>B9 σ1 l
  |none=>none
theorem acw:∀{cn:Cn} {σ σ1:af},B9 σ cn=some σ1->σ.er.sy cn.er=some σ1.er
 |[],σ,σ1,h=>by simp only[B9] at h;injection h with h;subst h;rfl
 |x::l,σ,σ1,h=>by
  simp only[B9] at h
  split at h
  ·rename_i σ2 e
   have i:=apt e
   have j:=acw h
   simp only[Cn.er] at j
   simp only[Cn.er,List.map_cons,St.sy,i,j]
  ·cases h
section
variable {ρ:Type}
def y7 (n:Nat) (k:Nat->Option ρ):List Nat->Option ρ
 |[]=>k n
 |c::l=>match Nat.beq n c with
  |true=>k c
  |false=>y7 n k l
theorem abi (n:Nat) (k:Nat->Option ρ):∀l,y7 n k l=k n
 |[]=>rfl
 |c::l=>by
  simp only[y7]
  split
  ·rename_i e;rw[Nat.eq_of_beq_eq_true e]
  ·exact abi n k l
def Oo (kh:List Nat) (c:SC) (k:SC->Option ρ):Option ρ:=
 match c with
 |.v t x=>k (.v t x)
 |.nil ts=>k (.nil ts)
 |.ptr n kk sz off=>y7 n (fun n=>k (.ptr n kk sz off)) kh
 |.cj ts x off=>k (.cj ts x off)
 |.sl n sz lo len=>y7 n (fun n=>k (.sl n sz lo len)) kh
 |.bx n a b c d e=>y7 n (fun n=>k (.bx n a b c d e)) kh
 |.cN n a b c d e=>y7 n (fun n=>k (.cN n a b c d e)) kh
 |.fn f cf=>k (.fn f cf)
 |.bn=>k .bn
theorem Zb (kh:List Nat) (c:SC) (k:SC->Option ρ):Oo kh c k=k c:=by
 cases c<;>first|rfl|exact abi _ _ _
def Dz (kh:List Nat):List SC->(List SC->Option ρ)->Option ρ
 |[],k=>k []
 |c::cs,k=>Oo kh c fun c=>Dz kh cs fun cs=>k (c::cs)
theorem Oq (kh:List Nat):∀(cs:List SC) (k:List SC->Option ρ),Dz kh cs k=k cs
 |[],k=>rfl
 |c::cs,k=>by simp only[Dz,Zb,Oq kh cs]
def ue (kh:List Nat) (env:Nat->SV):List Nat->(List (Nat×SV)->Option ρ)->Option ρ
 |[],k=>k []
 |s::ss,k=>match env s with
  |.one .bn=>ue kh env ss k
  |.one c=>Oo kh c fun c=>ue kh env ss fun l=>k ((s,.one c)::l)
  |.agg cs=>Dz kh cs fun cs=>ue kh env ss fun l=>k ((s,.agg cs)::l)
  |.bo xs=>ue kh env ss fun l=>k ((s,.bo xs)::l)
def uf (kh:List Nat) (h:Nat->Option SB):List Nat->(List (Nat×Option SB)->Option ρ)->Option ρ
 |[],k=>k []
 |n::ns,k=>match h n with
  |none=>uf kh h ns k
  |some (.box cs)=>Dz kh cs fun cs=>uf kh h ns fun l=>k ((n,some (.box cs))::l)
  |some (.row gr m ts xs)=>uf kh h ns fun l=>k ((n,some (.row gr m ts xs))::l)
def yh (u:Nat->Bool):List Nat->(List Nat->Option ρ)->Option ρ
 |[],k=>k []
 |n::ns,k=>match u n with
  |true=>yh u ns fun l=>k (n::l)
  |false=>yh u ns k
def vj:List Nat->Nat->Bool
 |[],n=>Nat.ble aM n
 |m::l,n=>match Nat.beq n m with
  |true=>true
  |false=>vj l n
def af.AK (ke kh:List Nat) (σ:af) (k:af->Option ρ):Option ρ:=
 ue kh σ.env ke fun le=>uf kh σ.h kh fun lh=>yh σ.used kh fun lu=>k ⟨lE le,jN lh,vj lu⟩
structure ij (ke kh:List Nat) (σ:af):Prop where
 e:∀s,s∉ke->σ.env s=.one .bn
 h:∀n,n∉kh->σ.h n=none
 u:∀n,n∉kh->σ.used n=Nat.ble aM n
 p:∀n,σ.used n=false->Nat.ble aM n=false
theorem Zc (kh:List Nat) (env:Nat->SV):∀(ss:List Nat) (k:List (Nat×SV)->Option ρ),∃l:List (Nat×SV),ue kh env ss k=k l/\∀s,lE l s=if s∈ss then env s else .one .bn
 |[],k=>⟨[],rfl,fun s=>by simp[lE]⟩
 |a::ss,k=>by
  have cV:∀v:SV,env a=v->(∀k':List (Nat×SV)->Option ρ,∃l,ue kh env ss k'=k' l/\∀s,lE l s=if s∈ss then env s else .one .bn)->
    ∃l:List (Nat×SV),ue kh env ss (fun l=>k ((a,v)::l))=k l/\∀s,lE l s=if s∈a::ss then env s else .one .bn:=by
   intro v hv ih
   obtain⟨l,h1,h2⟩:=ih fun l=>k ((a,v)::l)
   refine⟨(a,v)::l,h1,fun s=>?_⟩
   simp only[lE,iO]
   split
   ·rename_i e
    subst e
    rw[if_pos (by simp)]
    exact hv.symm
   ·rename_i aE
    rw[h2 s]
    by_cases hs:s∈ss
    ·rw[if_pos hs,if_pos (by simp[hs])]
    ·rw[if_neg hs,if_neg (by simp[hs,aE])]
  have ih:=fun k':List (Nat×SV)->Option ρ=>Zc kh env ss k'
  simp only[ue]
  split
  ·rename_i hv
   obtain⟨l,h1,h2⟩:=ih k
   refine⟨l,h1,fun s=>?_⟩
   rw[h2 s]
   by_cases hs:s∈ss
   ·rw[if_pos hs,if_pos (by simp[hs])]
   ·rw[if_neg hs]
    by_cases wq:s=a
    ·subst wq;rw[if_pos (by simp),hv]
    ·rw[if_neg (by simp[hs,wq])]
  ·rename_i c hc hv
   rw[Zb]
   exact cV _ hv ih
  ·rename_i cs hv
   rw[Oq]
   exact cV _ hv ih
  ·rename_i xs hv
   exact cV _ hv ih
theorem Zd (kh:List Nat) (h:Nat->Option SB):∀(ns:List Nat) (k:List (Nat×Option SB)->Option ρ),∃l:List (Nat×Option SB),uf kh h ns k=k l/\∀n,jN l n=if n∈ns then h n else none
 |[],k=>⟨[],rfl,fun s=>by simp[jN]⟩
 |a::ns,k=>by
  have cV:∀v:Option SB,h a=v->(∀k':List (Nat×Option SB)->Option ρ,∃l,uf kh h ns k'=k' l/\∀s,jN l s=if s∈ns then h s else none)->
    ∃l:List (Nat×Option SB),uf kh h ns (fun l=>k ((a,v)::l))=k l/\∀s,jN l s=if s∈a::ns then h s else none:=by
   intro v hv ih
   obtain⟨l,h1,h2⟩:=ih fun l=>k ((a,v)::l)
   refine⟨(a,v)::l,h1,fun s=>?_⟩
   simp only[jN,iO]
   split
   ·rename_i e
    subst e
    rw[if_pos (by simp)]
    exact hv.symm
   ·rename_i aE
    rw[h2 s]
    by_cases hs:s∈ns
    ·rw[if_pos hs,if_pos (by simp[hs])]
    ·rw[if_neg hs,if_neg (by simp[hs,aE])]
  have ih:=fun k':List (Nat×Option SB)->Option ρ=>Zd kh h ns k'
  simp only[uf]
  split
  ·rename_i hv
   obtain⟨l,h1,h2⟩:=ih k
   refine⟨l,h1,fun s=>?_⟩
   rw[h2 s]
   by_cases hs:s∈ns
   ·rw[if_pos hs,if_pos (by simp[hs])]
   ·rw[if_neg hs]
    by_cases wq:s=a
    ·subst wq;rw[if_pos (by simp),hv]
    ·rw[if_neg (by simp[hs,wq])]
  ·rename_i cs hv
   rw[Oq]
   exact cV _ hv ih
  ·rename_i gr m ts xs hv
   exact cV _ hv ih
theorem Ot (u:Nat->Bool) (hp:∀n,u n=false->Nat.ble aM n=false):∀(ns:List Nat) (k:List Nat->Option ρ),∃l:List Nat,yh u ns k=k l/\∀n,vj l n=if n∈ns then u n else Nat.ble aM n
 |[],k=>⟨[],rfl,fun s=>by simp[vj]⟩
 |a::ns,k=>by
  simp only[yh]
  split
  ·rename_i hv
   obtain⟨l,h1,h2⟩:=Ot u hp ns fun l=>k (a::l)
   refine⟨a::l,h1,fun s=>?_⟩
   simp only[vj]
   split
   ·rename_i e
    have:=Nat.eq_of_beq_eq_true e
    subst this
    rw[if_pos (by simp)]
    exact hv.symm
   ·rename_i e
    have aE:=wU e
    rw[h2 s]
    by_cases hs:s∈ns
    ·rw[if_pos hs,if_pos (by simp[hs])]
    ·rw[if_neg hs,if_neg (by simp[hs,aE])]
  ·rename_i hv
   obtain⟨l,h1,h2⟩:=Ot u hp ns k
   refine⟨l,h1,fun s=>?_⟩
   rw[h2 s]
   by_cases hs:s∈ns
   ·rw[if_pos hs,if_pos (by simp[hs])]
   ·rw[if_neg hs]
    by_cases wq:s=a
    ·subst wq;rw[if_pos (by simp),hv,hp _ hv]
    ·rw[if_neg (by simp[hs,wq])]
theorem IB {ke kh:List Nat} {σ:af} (W:ij ke kh σ) (k:af->Option ρ):σ.AK ke kh k=k σ:=by
 unfold af.AK
 obtain⟨le,e1,e2⟩:=Zc kh σ.env ke fun le=>uf kh σ.h kh fun lh=>yh σ.used kh fun lu=>k ⟨lE le,jN lh,vj lu⟩
 rw[e1]
 obtain⟨lh,h1,h2⟩:=Zd kh σ.h kh fun lh=>yh σ.used kh fun lu=>k ⟨lE le,jN lh,vj lu⟩
 rw[h1]
 obtain⟨lu,u1,u2⟩:=Ot σ.used W.p kh fun lu=>k ⟨lE le,jN lh,vj lu⟩
 rw[u1]
 have a1:lE le=σ.env:=by
  funext s
  rw[e2 s]
  split
  ·rfl
  ·rename_i hs;exact(W.e s hs).symm
 have a2:jN lh=σ.h:=by
  funext s
  rw[h2 s]
  split
  ·rfl
  ·rename_i hs;exact(W.h s hs).symm
 have a3:vj lu=σ.used:=by
  funext s
  rw[u2 s]
  split
  ·rfl
  ·rename_i hs;exact(W.u s hs).symm
 rw[a1,a2,a3]
theorem ij.h9 (ke kh:List Nat) (σ:af):ij ke kh (σ.h9 ke kh):=
 ⟨fun s hs=>VV _ _ _ s hs,fun n hn=>VW _ _ _ n hn,fun n hn=>by show(Nat.ble aM n||rZ _ _ n)=_;rw[VX _ _ n hn,Bool.or_false],
  fun n hn=>by have bk:(Nat.ble aM n||rZ _ _ n)=false:=hn;simp only[Bool.or_eq_false_iff] at bk;exact bk.1⟩
theorem ij.ba {ke kh:List Nat} {σ σ1:af} {a c:Nat} (W:ij ke kh σ) (hc:c∈kh) (h:σ.ba a c=some σ1):ij ke kh σ1:=by
 unfold af.ba at h
 split at h
 ·injection h with h;subst h;exact W
 ·split at h
  ·injection h with h;subst h;exact W
  ·rename_i wk
   split at h
   ·cases h
   ·rename_i Ja
    injection h with h
    subst h
    refine⟨fun s hs=>?_,fun n hn=>?_,fun n hn=>?_,fun n hn=>?_⟩
    ·show(σ.env s).ba a c=_
     rw[W.e s hs];rfl
    ·simp only
     split
     ·rename_i e;exact absurd (by rw[Nat.eq_of_beq_eq_true e];exact hc) hn
     ·split
      ·rfl
      ·rw[W.h n hn];rfl
    ·simp only
     split
     ·rename_i e;exact absurd (by rw[Nat.eq_of_beq_eq_true e];exact hc) hn
     ·split
      ·rename_i e;rw[Nat.eq_of_beq_eq_true e,wk]
      ·exact W.u n hn
    ·simp only at hn
     split at hn
     ·rename_i e;rw[Nat.eq_of_beq_eq_true e];exact W.p c Ja
     ·split at hn
      ·rename_i e;rw[Nat.eq_of_beq_eq_true e,wk]
      ·exact W.p n hn
theorem ij.ins {ke kh:List Nat} {σ σ1:af} {c:Nat} {b:SB} (W:ij ke kh σ) (hc:c∈kh) (h:σ.ins c b=some σ1):ij ke kh σ1:=by
 unfold af.ins at h
 split at h
 ·cases h
 ·rename_i Ja
  injection h with h
  subst h
  refine⟨W.e,fun n hn=>?_,fun n hn=>?_,fun n hn=>?_⟩
  ·show ax σ.h c _ n=_
   rw[cb _ _ _ _ (fun e=>hn (by rw[e];exact hc))];exact W.h n hn
  ·show ax σ.used c _ n=_
   rw[cb _ _ _ _ (fun e=>hn (by rw[e];exact hc))];exact W.u n hn
  ·have bk:ax σ.used c true n=false:=hn
   by_cases e:n=c
   ·subst e;rw[bE] at bk;cases bk
   ·rw[cb _ _ _ _ e] at bk;exact W.p n bk
theorem ij.jH {ke kh:List Nat} {σ:af} (W:ij ke kh σ) (c:Nat) (m:Mode):ij ke kh (σ.jH c m):=by
 cases m with
 |live=>exact W
 |ab=>exact W
 |aO=>
  simp only[af.jH]
  split
  ·rename_i gr ts xs hn
   exact⟨W.e,fun n hk=>by
    show ax σ.h c _ n=none
    have qd:n≠c:=fun e=>by subst e;rw[W.h n hk] at hn;cases hn
    rw[cb _ _ _ _ qd];exact W.h n hk,W.u,W.p⟩
  ·exact W
theorem ij.ET {ke kh:List Nat} {σ σ1:af} {a c:Nat} {m:Mode} (W:ij ke kh σ) (hc:c∈kh) (h:(σ.ba a c).map (fun σ1=>σ1.jH c m)=some σ1):ij ke kh σ1:=by
 rw[Option.map_eq_some_iff] at h
 obtain⟨σ2,e,rfl⟩:=h
 exact(W.ba hc e).jH c m
theorem ij.canon {ke kh:List Nat} {σ σ1:af} {x:Bool×Nat×Nat×Nat×Mode×List Ty} (W:ij ke kh σ) (hc:x.2.2.2.1∈kh) (h:xi σ x=some σ1):ij ke kh σ1:=by
 obtain⟨b,n,j,c,m,us⟩:=x
 simp only at hc
 have fP:some σ=some σ1->ij ke kh σ1:=fun h=>by injection h with h;subst h;exact W
 cases b with
 |true=>
  simp only[xi] at h
  split at h
  ·rename_i cs hn
   split at h
   ·exact W.ET hc h
   ·split at h
    ·exact fP h
    ·split at h
     ·rename_i σ2 e
      injection h with h
      subst h
      have W2:=W.ins hc e
      have Pk:n∈kh:=by
       rcases Decidable.em (n∈kh) with h|h
       ·exact h
       ·rw[W.h n h] at hn;cases hn
      exact⟨W2.e,fun q hq=>by show ax σ2.h n _ q=_;rw[cb _ _ _ _ (fun e=>hq (by rw[e];exact Pk))];exact W2.h q hq,W2.u,W2.p⟩
     ·cases h
   ·exact fP h
  ·exact fP h
 |false=>
  simp only[xi] at h
  split at h
  ·exact W.ET hc h
  ·rename_i ts hn
   split at h
   ·exact fP h
   ·split at h
    ·rename_i σ2 e
     injection h with h
     subst h
     have W2:=W.ins hc e
     have Pk:n∈ke:=by
      rcases Decidable.em (n∈ke) with h|h
      ·exact h
      ·rw[W.e n h] at hn;cases hn
     exact⟨fun q hq=>by show ax σ2.env n _ q=_;rw[cb _ _ _ _ (fun e=>hq (by rw[e];exact Pk))];exact W2.e q hq,W2.h,W2.u,W2.p⟩
    ·cases h
  ·exact fP h
def Kd (ke kh:List Nat):Cn->af->(af->Option ρ)->Option ρ
 |[],σ,k=>k σ
 |x::l,σ,k=>match xi σ x with
  |some σ1=>match List.elem x.2.2.2.1 kh with
   |true=>σ1.AK ke kh fun σ2=>Kd ke kh l σ2 k
   |false=>none
  |none=>none
theorem acv {ke kh:List Nat}:∀{cn:Cn} {σ:af} {k:af->Option ρ} {r:ρ},ij ke kh σ->Kd ke kh cn σ k=some r->∃σ1,B9 σ cn=some σ1/\k σ1=some r
 |[],σ,k,r,W,h=>⟨σ,rfl,h⟩
 |x::l,σ,k,r,W,h=>by
  simp only[Kd] at h
  split at h
  ·rename_i σ1 e
   split at h
   ·rename_i hm
    have W1:=W.canon (by simpa using hm) e
    rw[IB W1] at h
    obtain⟨σ2,h1,h2⟩:=acv W1 h
    exact⟨σ2,by simp only[B9,e,h1],h2⟩
   ·cases h
  ·cases h
def Cc (sh:jf) (kh:List Nat) (cn:Cn) (σ:af) (k:sh.L.D->Option ρ):Option ρ:=
 (σ.h9 sh.ke kh).AK sh.ke kh fun σ1=>(σ1.h9 sh.ke kh).AK sh.ke kh fun σ2=>Kd sh.ke kh cn σ2 fun gD=>(gD.h9 sh.ke kh).AK sh.ke kh fun σ4=>sh.flat kh σ4 k
theorem Ki {sh:jf} {kh:List Nat} {cn:Cn} {σ:af} {k:sh.L.D->Option ρ} {r:ρ} (h:Cc sh kh cn σ k=some r):
  ∃x,σ.er.head sh.ke kh cn.er=some (sh.un x).er/\k x=some r:=by
 unfold Cc at h
 rw[IB (ij.h9 _ _ _),IB (ij.h9 _ _ _)] at h
 obtain⟨σ1,e,h⟩:=acv (ij.h9 _ _ _) h
 rw[IB (ij.h9 _ _ _)] at h
 obtain⟨x,h1,h2⟩:=jf.oL h (fun s hs=>VV _ _ _ s hs) (fun n hn=>⟨VW _ _ _ n hn,by show(Nat.ble aM n||rZ _ _ n)=_;rw[VX _ _ n hn,Bool.or_false]⟩)
 have i:=acw e
 rw[af.Sz,af.Sz] at i
 exact⟨x,by simp only[St.head,i,<-h1,af.Sz],h2⟩
end
inductive bf where
 |skip
 |aa (re:Bool) (ops:List eY)
 |rS (ps:List (Nat×Nat)) (ops:List eY)
 |seq (a b:bf)
 |cond (c:cz) (a b:bf)
 |block (id:Nat) (c:bf)
 |join (sh:jf) (kh:List Nat) (cn:Cn) (c:bf)
 |loop (id:Nat) (sh:jf) (kh:List Nat) (cn:Cn) (c:bf)
 |exit (id:Nat)
 |ret
def bf.er:bf->lg
 |.skip=>.skip
 |.aa d ops=>.aa d (ops.map eY.er)
 |.rS ps ops=>.rS ps (ops.map eY.er)
 |.seq a b=>.seq a.er b.er
 |.cond c a b=>.cond c.er a.er b.er
 |.block id c=>.block id c.er
 |.join sh kh cn c=>.join sh.ke kh cn.er c.er
 |.loop id sh kh cn c=>.loop id sh.ke kh cn.er c.er
 |.exit id=>.exit id
 |.ret=>.ret
def af.Qo (σ:af) (c:cz) (b:Bool):af:=
 match c with
 |.t n=>σ.lit n b
 |.k _=>σ
def wH {X ρ:Type} (o:Option ρ):Option (X⊕ρ):=o.U fun r=>some (.inr r)
theorem Bm {X ρ:Type} {o:Option ρ} {s:X⊕ρ} (h:wH o=some s):∃r,o=some r/\s=.inr r:=by
 unfold wH at h
 rw[eH] at h
 obtain⟨r,h1,h2⟩:=h
 injection h2 with h2
 exact⟨r,h1,h2.symm⟩
def kT (N:Nat) (T:List au):bf->{ρ:Type}->af->(af->Option ρ)->(Nat->af->Option ρ)->(af->Option ρ)->Option ρ
 |.skip,_,σ,k,_,_=>k σ
 |.aa _ ops,_,σ,k,_,_=>qN T ops σ k
 |.rS ps ops,_,σ,k,_,_=>qO T ps ops [] σ k
 |.seq a b,_,σ,k,ex,kr=>kT N T a σ (fun σ1=>kT N T b σ1 k ex kr) ex kr
 |.cond c a b,_,σ,k,ex,kr=>match σ.ev c with
  |.one (.v .bool t)=>ak t (kT N T a (σ.Qo c true) k ex kr) (kT N T b (σ.Qo c false) k ex kr)
  |_=>none
 |.block id c,_,σ,k,ex,kr=>kT N T c σ k (fun i σ1=>match Nat.beq i id with|true=>k σ1|false=>ex i σ1) kr
 |.join sh kh cn c,ρ,σ,k,ex,kr=>
  bD (kT N T c (ρ:=sh.L.D⊕ρ) σ (fun σ1=>Cc sh kh cn σ1 fun x=>some (.inl x)) (fun i σ1=>wH (ex i σ1)) (fun σ1=>wH (kr σ1))) fun x=>k (sh.un x)
 |.loop id sh kh cn c,ρ,σ,k,ex,kr=>
  Cc sh kh cn σ fun x0=>bu N (fun x=>kT N T c (ρ:=sh.L.D⊕ρ) (sh.un x) (fun σ1=>Cc sh kh cn σ1 fun x'=>some (.inl x')) (fun i σ1=>wH (ex i σ1)) (fun σ1=>wH (kr σ1))) x0
 |.exit id,_,σ,_,ex,_=>ex id σ
 |.ret,_,σ,_,_,kr=>kr σ
def WT {ρ:Type} (k:af->Option ρ) (ex:Nat->af->Option ρ) (kr:af->Option ρ) (r:ρ):sq->Prop
 |.fy τ=>∃eA:af,τ=eA.er/\k eA=some r
 |.ext i τ=>∃eA:af,τ=eA.er/\ex i eA=some r
 |.ret τ=>∃eA:af,τ=eA.er/\kr eA=some r
theorem aaP {σ:af} {c:cz} {b:Bool} (h:σ.ev c=.one (.v .bool b)):(σ.Qo c b).er=σ.er:=by
 cases c with
 |t n=>exact af.Dg h
 |k v=>rfl
theorem rV {T:List au}:∀(m:bf) {ρ:Type} {σ:af} {k:af->Option ρ} {ex:Nat->af->Option ρ} {kr:af->Option ρ} {r:ρ},kT az T m σ k ex kr=some r->
    ∃o:sq,dY (cH T) m.er σ.er=some o/\WT k ex kr r o
  |.skip,ρ,σ,k,ex,kr,r,h=>⟨.fy σ.er,rfl,σ,rfl,h⟩
  |.aa d ops,ρ,σ,k,ex,kr,r,h=>by
   obtain⟨σ1,h1,h2⟩:=Vy (h:qN T ops σ k=some r)
   exact⟨.fy σ1.er,by simp only[bf.er,dY,h1],σ1,rfl,h2⟩
  |.rS ps ops,ρ,σ,k,ex,kr,r,h=>by
   obtain⟨σ1,fs,h1,h2,h3⟩:=Vx (h:qO T ps ops [] σ k=some r)
   exact⟨.fy σ1.er,by simp only[bf.er,dY,h1,h2,cond_true],σ1,rfl,h3⟩
  |.seq a b,ρ,σ,k,ex,kr,r,h=>by
   obtain⟨o,h1,h2⟩:=rV a (h:kT az T a σ (fun σ1=>kT az T b σ1 k ex kr) ex kr=some r)
   cases o with
   |fy τ=>
    obtain⟨eA,rfl,h2⟩:=h2
    obtain⟨o2,h3,h4⟩:=rV b h2
    exact⟨o2,by simp only[bf.er,dY,h1,h3],h4⟩
   |ext i τ=>exact⟨.ext i τ,by simp only[bf.er,dY,h1],h2⟩
   |ret τ=>exact⟨.ret τ,by simp only[bf.er,dY,h1],h2⟩
  |.cond c a b,ρ,σ,k,ex,kr,r,h=>by
   simp only[kT] at h
   split at h
   · rename_i t hc
     have cO:σ.er.ev c.er=.one (.c (.bool t)):=by rw[af.dm,hc];rfl
     cases ht:(t:Bool) with
     |true=>
      rw[ht] at h
      simp only[ML] at h
      obtain⟨o,h1,h2⟩:=rV a h
      rw[aaP (by rw[hc,ht])] at h1
      exact⟨o,by simp only[bf.er,dY,cO,ht,if_true,h1],h2⟩
     |false=>
      rw[ht] at h
      simp only[H4] at h
      obtain⟨o,h1,h2⟩:=rV b h
      rw[aaP (by rw[hc,ht])] at h1
      exact⟨o,by simp only[bf.er,dY,cO,ht,Bool.false_eq_true,if_false,h1],h2⟩
   · cases h
  |.block id c,ρ,σ,k,ex,kr,r,h=>by
   obtain⟨o,h1,h2⟩:=rV c (h:kT az T c σ k (fun i σ1=>match Nat.beq i id with|true=>k σ1|false=>ex i σ1) kr=some r)
   cases o with
   |fy τ=>exact⟨.fy τ,by simp only[bf.er,dY,h1],h2⟩
   |ret τ=>exact⟨.ret τ,by simp only[bf.er,dY,h1],h2⟩
   |ext i τ=>
    obtain⟨eA,rfl,h2⟩:=h2
    simp only at h2
    split at h2
    · rename_i e
      exact⟨.fy eA.er,by simp only[bf.er,dY,h1,if_pos (Nat.eq_of_beq_eq_true e)],eA,rfl,h2⟩
    · rename_i e
      exact⟨.ext i eA.er,by simp only[bf.er,dY,h1,if_neg (wU e)],eA,rfl,h2⟩
  |.join sh kh cn c,ρ,σ,k,ex,kr,r,h=>by
   simp only[kT,bD,Option.bind_eq_some_iff] at h
   obtain⟨s,hs,h⟩:=h
   obtain⟨o,h1,h2⟩:=rV c hs
   cases o with
   |fy τ=>
    obtain⟨eA,rfl,h2⟩:=h2
    obtain⟨x,h3,h4⟩:=Ki h2
    injection h4 with h4
    subst h4
    exact⟨.fy (sh.un x).er,by simp only[bf.er,dY,h1,h3],sh.un x,rfl,h⟩
   |ext i τ=>
    obtain⟨eA,rfl,h2⟩:=h2
    obtain⟨y,h3,rfl⟩:=Bm h2
    injection h with h
    subst h
    exact⟨.ext i eA.er,by simp only[bf.er,dY,h1],eA,rfl,h3⟩
   |ret τ=>
    obtain⟨eA,rfl,h2⟩:=h2
    obtain⟨y,h3,rfl⟩:=Bm h2
    injection h with h
    subst h
    exact⟨.ret eA.er,by simp only[bf.er,dY,h1],eA,rfl,h3⟩
  |.loop id sh kh cn c,ρ,σ,k,ex,kr,r,h=>by
   simp only[kT] at h
   obtain⟨x0,h0,h⟩:=Ki h
   simp only[bf.er,dY]
   have cV:∀(n:Nat) (x0:sh.L.D) (KV:St),KV.head sh.ke kh cn.er=some (sh.un x0).er->
       bu n (fun x=>kT az T c (ρ:=sh.L.D⊕ρ) (sh.un x) (fun σ1=>Cc sh kh cn σ1 fun x'=>some (.inl x')) (fun i σ1=>wH (ex i σ1)) (fun σ1=>wH (kr σ1))) x0=some r->
       ∃o:sq,BA n (fun σ=>match σ.head sh.ke kh cn.er with|some σ1=>dY (cH T) c.er σ1|none=>none) KV=some o/\WT k ex kr r o:=by
    intro n
    induction n with
    |zero=>intro x0 KV h0 h;simp[bu] at h
    |succ n ih=>
     intro x0 KV h0 h
     simp only[bu] at h
     simp only[BA,h0]
     split at h
     · rename_i x' hb
       obtain⟨o,h1,h2⟩:=rV c hb
       cases o with
       |fy τ=>
        obtain⟨eA,rfl,h2⟩:=h2
        obtain⟨x2,h3,h4⟩:=Ki h2
        injection h4 with h4
        injection h4 with h4
        subst h4
        simp only[h1]
        exact ih x2 _ h3 h
       |ext i τ=>
        obtain⟨eA,rfl,h2⟩:=h2
        obtain⟨y,_,e⟩:=Bm h2
        cases e
       |ret τ=>
        obtain⟨eA,rfl,h2⟩:=h2
        obtain⟨y,_,e⟩:=Bm h2
        cases e
     · rename_i y hb
       injection h with h
       subst h
       obtain⟨o,h1,h2⟩:=rV c hb
       cases o with
       |fy τ=>
        obtain⟨eA,rfl,h2⟩:=h2
        obtain⟨x2,h3,h4⟩:=Ki h2
        injection h4 with h4
        cases h4
       |ext i τ=>
        obtain⟨eA,rfl,h2⟩:=h2
        obtain⟨y',h3,e⟩:=Bm h2
        injection e with e
        subst e
        exact⟨.ext i eA.er,by simp only[h1],eA,rfl,h3⟩
       |ret τ=>
        obtain⟨eA,rfl,h2⟩:=h2
        obtain⟨y',h3,e⟩:=Bm h2
        injection e with e
        subst e
        exact⟨.ret eA.er,by simp only[h1],eA,rfl,h3⟩
     · cases h
   exact cV az x0 σ.er h0 h
  |.exit id,ρ,σ,k,ex,kr,r,h=>⟨.ext id σ.er,rfl,σ,rfl,h⟩
  |.ret,ρ,σ,k,ex,kr,r,h=>⟨.ret σ.er,rfl,σ,rfl,h⟩
end Go.Am
