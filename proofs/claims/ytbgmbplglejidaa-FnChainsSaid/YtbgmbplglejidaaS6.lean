/- S6: heads and code of the typed evaluator. No condition. -/
import Derived.Test.YtbgmbplglejidaaS5
set_option linter.unusedVariables false
set_option linter.unusedSimpArgs false
namespace Go.Am
def SC.fw (ok:Nat->Bool):SC->SC
 |.ptr n k sz off=>match ok n with|true=>.ptr n k sz off|false=>.bm
 |.sl n sz lo len=>match ok n with|true=>.sl n sz lo len|false=>.bm
 |.bz n k az off sz len=>match ok n with|true=>.bz n k az off sz len|false=>.bm
 |.cQ n k az off sz i=>match ok n with|true=>.cQ n k az off sz i|false=>.bm
 |x=>x
def SC.cT (ok:Nat->Bool):SC->SC
 |.fn f cr=>.fn f (cr.map (SC.fw ok))
 |.v t x=>.v t x
 |.nil ts=>.nil ts
 |.ptr n k sz off=>SC.fw ok (.ptr n k sz off)
 |.cu ts x off=>.cu ts x off
 |.sl n sz lo len=>SC.fw ok (.sl n sz lo len)
 |.bz n k az off sz len=>SC.fw ok (.bz n k az off sz len)
 |.cQ n k az off sz i=>SC.fw ok (.cQ n k az off sz i)
 |.bm=>.bm
theorem SC.C1 (ok:Nat->Bool) (c:SC):(c.fw ok).er=c.er.fw ok:=by
 cases c with
 |ptr n k sz off=>simp only[SC.fw,SC.er,ah.fw];cases ok n<;>rfl
 |sl n sz lo len=>simp only[SC.fw,SC.er,ah.fw];cases ok n<;>rfl
 |bz n k az off sz len=>simp only[SC.fw,SC.er,ah.fw];cases ok n<;>rfl
 |cQ n k az off sz i=>simp only[SC.fw,SC.er,ah.fw];cases ok n<;>rfl
 |_=>rfl
theorem SC.As (ok:Nat->Bool) (c:SC):(c.cT ok).er=c.er.cT ok:=by
 cases c with
 |fn f cr=>
  simp only[SC.cT,SC.er,ah.cT,SC.Dh,List.map_map]
  congr 1
  exact List.map_congr_left fun c _=>SC.C1 ok c
 |ptr n k sz off=>exact SC.C1 ok (.ptr n k sz off)
 |sl n sz lo len=>exact SC.C1 ok (.sl n sz lo len)
 |bz n k az off sz len=>exact SC.C1 ok (.bz n k az off sz len)
 |cQ n k az off sz i=>exact SC.C1 ok (.cQ n k az off sz i)
 |_=>rfl
def SV.cT (ok:Nat->Bool):SV->SV
 |.one c=>.one (c.cT ok)
 |.agg cs=>.agg (cs.map (SC.cT ok))
 |.bn xs=>.bn (xs.map fun x=>(x.1,x.2.map (SC.cT ok)))
theorem Ml (ok:Nat->Bool) (cs:List SC):(cs.map (SC.cT ok)).map SC.er=(cs.map SC.er).map (ah.cT ok):=by
 simp only[List.map_map]
 exact List.map_congr_left fun c _=>SC.As ok c
theorem SV.As (ok:Nat->Bool) (v:SV):(v.cT ok).er=v.er.cT ok:=by
 cases v with
 |one c=>simp only[SV.cT,SV.er,aj.cT,SC.As]
 |agg cs=>simp only[SV.cT,SV.er,aj.cT,Ml]
 |bn xs=>
  simp only[SV.cT,SV.er,aj.cT,List.map_map]
  congr 1
  exact List.map_congr_left fun x _=>by simp only[Function.comp];rw[Ml]
def SB.cT (ok:Nat->Bool):SB->SB
 |.box cs=>.box (cs.map (SC.cT ok))
 |.row gr m ts xs=>.row gr m ts xs
theorem SB.As (ok:Nat->Bool) (b:SB):(b.cT ok).er=b.er.cT ok:=by
 cases b with
 |box cs=>simp only[SB.cT,SB.er,ao.cT,Ml]
 |row gr m ts xs=>rfl
def zn (ok:Nat->Bool) (env:Nat->SV):List Nat->(Nat->SV)
 |[]=>fun _=>.one .bm
 |s::ss=>au (zn ok env ss) s ((env s).cT ok)
def u9 (ok:Nat->Bool) (h:Nat->Option SB):List Nat->(Nat->Option SB)
 |[]=>fun _=>none
 |s::ss=>match ok s with
  |true=>match h s with
   |some b=>au (u9 ok h ss) s (some (b.cT ok))
   |none=>u9 ok h ss
  |false=>u9 ok h ss
def rZ (ok:Nat->Bool):List Nat->(Nat->Bool)
 |[]=>fun _=>false
 |s::ss=>match ok s with
  |true=>au (rZ ok ss) s true
  |false=>rZ ok ss
theorem acp (ok:Nat->Bool) (env:Nat->SV):∀l,pW (zn ok env l)=uU ok (pW env) l
 |[]=>rfl
 |s::ss=>by simp only[zn,uU,vK,acp ok env ss,SV.As];rfl
theorem Kg (ok:Nat->Bool) (h:Nat->Option SB):∀l,cU (u9 ok h l)=qE ok (cU h) l
 |[]=>rfl
 |s::ss=>by
  simp only[u9,qE]
  cases ok s with
  |false=>simp only[Kg ok h ss,Bool.false_eq_true,if_false]
  |true=>
   have:cU h s=(h s).map SB.er:=rfl
   simp only[if_true,this]
   cases h s with
   |none=>simp only[Option.map_none,Kg ok h ss]
   |some b=>simp only[Ia,Kg ok h ss,Option.map_some,SB.As]
theorem acq (ok:Nat->Bool):∀l,rZ ok l=uV ok l
 |[]=>rfl
 |s::ss=>by
  simp only[rZ,uV]
  cases ok s<;>simp[acq ok ss]
theorem UM (ok:Nat->Bool) (env:Nat->SV):∀(l:List Nat) (s:Nat),s∉l->zn ok env l s=.one .bm
 |[],s,_=>rfl
 |a::l,s,h=>by
  simp only[List.mem_cons,not_or] at h
  simp only[zn,cq _ _ _ _ h.1,UM ok env l s h.2]
theorem UN (ok:Nat->Bool) (hp:Nat->Option SB):∀(l:List Nat) (s:Nat),s∉l->u9 ok hp l s=none
 |[],s,_=>rfl
 |a::l,s,h=>by
  simp only[List.mem_cons,not_or] at h
  have ih:=UN ok hp l s h.2
  simp only[u9]
  cases ok a with
  |false=>exact ih
  |true=>
   cases hp a with
   |none=>exact ih
   |some b=>simp only[cq _ _ _ _ h.1];exact ih
theorem UO (ok:Nat->Bool):∀(l:List Nat) (s:Nat),s∉l->rZ ok l s=false
 |[],s,_=>rfl
 |a::l,s,h=>by
  simp only[List.mem_cons,not_or] at h
  have ih:=UO ok l s h.2
  simp only[rZ]
  cases ok a with
  |false=>exact ih
  |true=>simp only[cq _ _ _ _ h.1];exact ih
def SC.wR (n:Nat):SC->Bool
 |.ptr m _ _ _=>Nat.beq m n
 |.sl m _ _ _=>Nat.beq m n
 |.bz m _ _ _ _ _=>Nat.beq m n
 |.cQ m _ _ _ _ _=>Nat.beq m n
 |_=>false
def SC.gF (n:Nat):SC->Bool
 |.fn _ cr=>cr.any (SC.wR n)
 |.ptr m _ _ _=>Nat.beq m n
 |.sl m _ _ _=>Nat.beq m n
 |.bz m _ _ _ _ _=>Nat.beq m n
 |.cQ m _ _ _ _ _=>Nat.beq m n
 |.v _ _=>false
 |.nil _=>false
 |.cu _ _ _=>false
 |.bm=>false
theorem CV (m n:Nat):(m==n)=Nat.beq m n:=by
 rw[Bool.eq_iff_iff,beq_iff_eq]
 exact⟨fun h=>by rw[h];exact Nat.beq_refl n,Nat.eq_of_beq_eq_true⟩
theorem SC.anp (n:Nat) (c:SC):c.er.wR n=c.wR n:=by
 cases c<;>simp[SC.er,ah.wR,SC.wR,CV]
theorem SC.JP (n:Nat) (c:SC):c.er.gF n=c.gF n:=by
 cases c with
 |fn f cr=>
  simp only[SC.er,SC.Dh,ah.gF,SC.gF,List.any_map]
  congr 1
  funext c
  exact SC.anp n c
 |ptr m _ _ _=>exact CV m n
 |sl m _ _ _=>exact CV m n
 |bz m _ _ _ _ _=>exact CV m n
 |cQ m _ _ _ _ _=>exact CV m n
 |_=>rfl
def SV.gF (n:Nat):SV->Bool
 |.one c=>c.gF n
 |.agg cs=>cs.any (SC.gF n)
 |.bn xs=>xs.any fun x=>x.2.any (SC.gF n)
theorem Ru (n:Nat) (cs:List SC):(cs.map SC.er).any (ah.gF n)=cs.any (SC.gF n):=by
 rw[List.any_map]
 congr 1
 funext c
 exact SC.JP n c
theorem SV.JP (n:Nat) (v:SV):v.er.gF n=v.gF n:=by
 cases v with
 |one c=>exact SC.JP n c
 |agg cs=>exact Ru n cs
 |bn xs=>
  simp only[SV.er,aj.gF,SV.gF,List.any_map]
  congr 1
  funext x
  exact Ru n x.2
def abh (n:Nat):Option SB->Bool
 |some (.box cs)=>cs.any (SC.gF n)
 |_=>false
def H8 (n:Nat):List Nat->Bool
 |[]=>false
 |m::l=>match Nat.beq n m with
  |true=>true
  |false=>H8 n l
theorem Xn (n:Nat):∀l:List Nat,H8 n l=l.contains n
 |[]=>rfl
 |m::l=>by
  simp only[H8,List.contains_cons]
  have e:(n==m)=Nat.beq n m:=by cases h:Nat.beq n m with
   |true=>simpa using Nat.eq_of_beq_eq_true h
   |false=>simp;intro h';rw[h',Nat.beq_refl] at h;cases h
  rw[e,Xn n l]
  cases Nat.beq n m<;>rfl
def af.iN (σ:af) (ke kh:List Nat):Nat->Bool:=fun n=>(σ.h n).isSome&&H8 n kh&&(Nat.ble aK n||ke.any (fun s=>(σ.env s).gF n)||kh.any fun k=>abh n (σ.h k))
theorem af.alW (σ:af) (ke kh:List Nat):σ.er.iN ke kh=σ.iN ke kh:=by
 funext n
 simp only[St.iN,af.iN]
 have h1:(σ.er.h n).isSome=(σ.h n).isSome:=Xs σ.h n
 have h2:(fun s=>(σ.er.env s).gF n)=fun s=>(σ.env s).gF n:=by funext s;exact SV.JP n _
 have h3:(fun k=>match σ.er.h k with|some (.box cs)=>cs.any (·.gF n)|_=>false)=fun k=>abh n (σ.h k):=by
  funext k
  have:σ.er.h k=(σ.h k).map SB.er:=rfl
  rw[this]
  cases σ.h k with
  |none=>rfl
  |some b=>cases b with
   |box cs=>exact Ru n cs
   |row gr m ts xs=>rfl
 rw[h1,h2,Xn,Bool.and_comm (x:=(σ.h n).isSome)]
 exact congrArg (fun g:Nat->Bool=>(kh.contains n&&(σ.h n).isSome&&((Nat.ble aK n||ke.any fun s=>SV.gF n (σ.env s))||kh.any g))) h3
def af.ia (σ:af) (ke kh:List Nat):af:=
 {env:=zn (σ.iN ke kh) σ.env ke,h:=u9 (σ.iN ke kh) σ.h kh,used:=fun n=>Nat.ble aK n||rZ (σ.iN ke kh) kh n}
theorem af.RE (σ:af) (ke kh:List Nat):(σ.ia ke kh).er=σ.er.ia ke kh:=by
 simp only[af.ia,St.ia,af.alW]
 have e1:=acp (σ.iN ke kh) σ.env ke
 have e2:=Kg (σ.iN ke kh) σ.h kh
 have e3:=acq (σ.iN ke kh) kh
 show St.mk (pW (zn (σ.iN ke kh) σ.env ke)) (cU (u9 (σ.iN ke kh) σ.h kh)) (fun n=>Nat.ble aK n||rZ (σ.iN ke kh) kh n)=_
 rw[e1,e2,e3]
 rfl
def th (x c n:Nat):Nat:=match Nat.beq n x with|true=>c|false=>n
theorem Ff (x c n:Nat):th x c n=nu x c n:=by
 unfold th nu
 cases h:Nat.beq n x with
 |true=>rw[if_pos (Nat.eq_of_beq_eq_true h)]
 |false=>rw[if_neg (fun e=>by rw[e,Nat.beq_refl] at h;cases h)]
def SC.ot (x c:Nat):SC->SC
 |.ptr n k sz off=>.ptr (th x c n) k sz off
 |.sl n sz lo len=>.sl (th x c n) sz lo len
 |.bz n k az off sz len=>.bz (th x c n) k az off sz len
 |.cQ n k az off sz i=>.cQ (th x c n) k az off sz i
 |y=>y
def SC.be (x c:Nat):SC->SC
 |.fn f cr=>.fn f (cr.map (SC.ot x c))
 |.ptr n k sz off=>.ptr (th x c n) k sz off
 |.sl n sz lo len=>.sl (th x c n) sz lo len
 |.bz n k az off sz len=>.bz (th x c n) k az off sz len
 |.cQ n k az off sz i=>.cQ (th x c n) k az off sz i
 |.v t y=>.v t y
 |.nil ts=>.nil ts
 |.cu ts y off=>.cu ts y off
 |.bm=>.bm
theorem SC.ant (x c:Nat) (y:SC):(y.ot x c).er=y.er.ot x c:=by
 cases y<;>simp[SC.ot,SC.er,ah.ot,Ff]
theorem SC.wU (x c:Nat) (y:SC):(y.be x c).er=y.er.be x c:=by
 cases y with
 |fn f cr=>
  simp only[SC.be,SC.er,ah.be,SC.Dh,List.map_map]
  congr 1
  exact List.map_congr_left fun y _=>SC.ant x c y
 |ptr n k sz off=>simp only[SC.be,SC.er,ah.be,ah.ot,Ff]
 |sl n sz lo len=>simp only[SC.be,SC.er,ah.be,ah.ot,Ff]
 |bz n k az off sz len=>simp only[SC.be,SC.er,ah.be,ah.ot,Ff]
 |cQ n k az off sz i=>simp only[SC.be,SC.er,ah.be,ah.ot,Ff]
 |_=>rfl
theorem RB (x c:Nat) (cs:List SC):(cs.map (SC.be x c)).map SC.er=(cs.map SC.er).map (ah.be x c):=by
 simp only[List.map_map]
 exact List.map_congr_left fun y _=>SC.wU x c y
def SV.be (x c:Nat):SV->SV
 |.one y=>.one (y.be x c)
 |.agg ys=>.agg (ys.map (SC.be x c))
 |.bn ys=>.bn (ys.map fun y=>(y.1,y.2.map (SC.be x c)))
theorem SV.wU (x c:Nat) (v:SV):(v.be x c).er=v.er.be x c:=by
 cases v with
 |one y=>simp only[SV.be,SV.er,aj.be,SC.wU]
 |agg cs=>simp only[SV.be,SV.er,aj.be,RB]
 |bn xs=>
  simp only[SV.be,SV.er,aj.be,List.map_map]
  congr 1
  exact List.map_congr_left fun y _=>by simp only[Function.comp];rw[RB]
def SB.be (x c:Nat):SB->SB
 |.box cs=>.box (cs.map (SC.be x c))
 |.row gr m ts xs=>.row gr m ts xs
theorem SB.wU (x c:Nat) (b:SB):(b.be x c).er=b.er.be x c:=by
 cases b with
 |box cs=>simp only[SB.be,SB.er,ao.be,RB]
 |row gr m ts xs=>rfl
def af.be (σ:af) (x c:Nat):Option af:=
  match Nat.beq x c with
  |true=>some σ
  |false=>match Nat.ble aK x with
   |true=>some σ
   |false=>match σ.used c with
    |true=>none
    |false=>some
     {env:=fun s=>(σ.env s).be x c
      h:=fun n=>match Nat.beq n c with
        |true=>(σ.h x).map (SB.be x c)
        |false=>match Nat.beq n x with
         |true=>none
         |false=>(σ.h n).map (SB.be x c)
      used:=fun n=>match Nat.beq n c with
        |true=>σ.used x
        |false=>match Nat.beq n x with
         |true=>false
         |false=>σ.used n}
theorem wK {m n:Nat} (h:Nat.beq m n=false):m≠n:=fun e=>by rw[e,Nat.beq_refl] at h;cases h
theorem af.wU {σ σ1:af} {x c:Nat} (h:σ.be x c=some σ1):σ.er.be x c=some σ1.er:=by
 unfold af.be at h
 split at h
 ·rename_i e
  injection h with h
  subst h
  simp[St.be,Nat.eq_of_beq_eq_true e]
 ·rename_i e
  split at h
  ·rename_i hx
   injection h with h
   subst h
   simp only[St.be,if_neg (wK e),hx,if_true]
  rename_i hx
  split at h
  ·cases h
  ·rename_i hu
   injection h with h
   subst h
   have kG:σ.er.used c=false:=hu
   simp only[St.be,if_neg (wK e),hx,kG,Bool.false_eq_true,if_false]
   congr 1
   have mm:∀o:Option SB,(o.map (SB.be x c)).map SB.er=(o.map SB.er).map (·.be x c):=by
    intro o;cases o with
    |none=>rfl
    |some b=>simp only[Option.map_some,SB.wU]
   have e1:(fun s=>(σ.er.env s).be x c)=pW (fun s=>(σ.env s).be x c):=by
    funext s;exact(SV.wU x c (σ.env s)).symm
   have e2:(fun n=>if n=c then(σ.er.h x).map (·.be x c) else if n=x then none else(σ.er.h n).map (·.be x c))=cU (fun n=>match Nat.beq n c with
     |true=>(σ.h x).map (SB.be x c)
     |false=>match Nat.beq n x with
      |true=>none
      |false=>(σ.h n).map (SB.be x c)):=by
    funext n
    simp only[cU]
    cases hc:Nat.beq n c with
    |true=>rw[if_pos (Nat.eq_of_beq_eq_true hc)];exact(mm (σ.h x)).symm
    |false=>
     rw[if_neg (wK hc)]
     cases hx:Nat.beq n x with
     |true=>rw[if_pos (Nat.eq_of_beq_eq_true hx)];rfl
     |false=>rw[if_neg (wK hx)];exact(mm (σ.h n)).symm
   have e3:(fun n=>if n=c then σ.er.used x else if n=x then false else σ.er.used n)=(fun n=>match Nat.beq n c with
     |true=>σ.used x
     |false=>match Nat.beq n x with
      |true=>false
      |false=>σ.used n):=by
    funext n
    cases hc:Nat.beq n c with
    |true=>rw[if_pos (Nat.eq_of_beq_eq_true hc)];rfl
    |false=>
     rw[if_neg (wK hc)]
     cases hx:Nat.beq n x with
     |true=>rw[if_pos (Nat.eq_of_beq_eq_true hx)]
     |false=>rw[if_neg (wK hx)];rfl
   rw[e1,e2,e3]
   rfl
abbrev Cn:=List (Bool×Nat×Nat×Nat×Mode×List Ty)
def Cn.er (cn:Cn):List (Bool×Nat×Nat×Nat×Mode):=cn.map fun x=>(x.1,x.2.1,x.2.2.1,x.2.2.2.1,x.2.2.2.2.1)
def af.jJ (σ:af) (c:Nat):Mode->af
 |.aD=>match σ.h c with
  |some (.row gr .ae ts xs)=>σ.dn c (.row gr .aD ts xs)
  |_=>σ
 |_=>σ
theorem af.aeR (σ:af) (c:Nat) (m:Mode):(σ.jJ c m).er=σ.er.jJ c m:=by
 cases m with
 |live=>rfl
 |ae=>rfl
 |aD=>
  simp only[af.jJ,St.jJ]
  have hh:σ.er.h c=(σ.h c).map SB.er:=rfl
  rw[hh]
  cases σ.h c with
  |none=>rfl
  |some b=>cases b with
   |box cs=>rfl
   |row gr m ts xs=>cases m with
    |ae=>simp only[Option.map_some,SB.er,af.oI]
    |live=>rfl
    |aD=>rfl
def wY (σ:af):Bool×Nat×Nat×Nat×Mode×List Ty->Option af
 |(true,n,j,c,m,us)=>match σ.h n with
  |some (.box cs)=>match cs[j]? with
   |some (.sl a _ _ _)=>(σ.be a c).map fun σ1=>σ1.jJ c m
   |some (.nil ts)=>match ts with
    |[]=>some σ
    |t::ts=>match σ.ins c (.row true m (t::ts) []) with
     |some σ1=>some (σ1.dn n (.box (cs.set j (.sl c (t::ts).length 0 0))))
     |none=>none
   |_=>some σ
  |_=>some σ
 |(false,n,j,c,m,us)=>match σ.env n with
  |.one (.sl a _ _ _)=>(σ.be a c).map fun σ1=>σ1.jJ c m
  |.one (.nil ts)=>match ts with
   |[]=>some σ
   |t::ts=>match σ.ins c (.row true m (t::ts) []) with
    |some σ1=>some (σ1.put (some n) (.one (.sl c (t::ts).length 0 0)))
    |none=>none
  |_=>some σ
theorem aco {σ σ1:af} {a c:Nat} {m:Mode} (h:(σ.be a c).map (fun σ1=>σ1.jJ c m)=some σ1):(σ.er.be a c).map (fun σ1=>σ1.jJ c m)=some σ1.er:=by
 rw[Option.map_eq_some_iff] at h
 obtain⟨σ2,e,rfl⟩:=h
 rw[af.wU e,Option.map_some,af.aeR]
theorem an6 {σ σ1:af} {x:Bool×Nat×Nat×Nat×Mode×List Ty} (h:wY σ x=some σ1):σ.er.canon (x.1,x.2.1,x.2.2.1,x.2.2.2.1,x.2.2.2.2.1)=some σ1.er:=by
 obtain⟨b,n,j,c,m,us⟩:=x
 cases b with
 |true=>
  simp only[wY] at h
  simp only[St.canon]
  have hh:σ.er.h n=(σ.h n).map SB.er:=rfl
  rw[hh]
  split at h
  ·rename_i cs hn
   simp only[hn,Option.map_some,SB.er,List.getElem?_map]
   split at h
   ·rename_i a _ _ _ hj
    simp only[hj,Option.map_some,SC.er]
    exact aco h
   ·rename_i ts hj
    simp only[hj,Option.map_some,SC.er]
    split at h
    ·injection h with h;subst h;rfl
    ·rename_i t ts
     split at h
     ·rename_i σ2 e
      injection h with h
      subst h
      have i:=af.sy e
      rw[show(SB.row true m (t::ts) []).er=ao.row true m (t::ts).length [] from rfl] at i
      simp only[List.length_cons,Nat.zero_lt_succ,if_true] at i⊢
      rw[i]
      simp only[af.oI,SB.er,List.map_set,SC.er,List.length_cons]
     ·cases h
   ·rename_i hs hz
    injection h with h
    subst h
    cases hj:cs[j]? with
    |none=>rfl
    |some y=>cases y<;>first|rfl|(exfalso;exact hs _ _ _ _ hj)|(exfalso;exact hz _ hj)
  ·rename_i hb
   injection h with h
   subst h
   cases hn:σ.h n with
   |none=>rfl
   |some b=>cases b with
    |box cs=>exact absurd hn (hb cs)
    |row gr m ts xs=>rfl
 |false=>
  simp only[wY] at h
  simp only[St.canon]
  have hh:σ.er.env n=(σ.env n).er:=rfl
  rw[hh]
  split at h
  ·rename_i a _ _ _ hn
   simp only[hn,SV.er,SC.er]
   exact aco h
  ·rename_i ts hn
   simp only[hn,SV.er,SC.er]
   split at h
   ·injection h with h;subst h;rfl
   ·rename_i t ts
    split at h
    ·rename_i σ2 e
     injection h with h
     subst h
     have i:=af.sy e
     rw[show(SB.row true m (t::ts) []).er=ao.row true m (t::ts).length [] from rfl] at i
     simp only[List.length_cons,Nat.zero_lt_succ,if_true] at i⊢
     rw[i]
     simp only[af.dj,SV.er,SC.er,List.length_cons]
    ·cases h
  ·rename_i hs hz
   injection h with h
   subst h
   cases hn:σ.env n with
   |one y=>cases y<;>first|rfl|(exfalso;exact hs _ _ _ _ hn)|(exfalso;exact hz _ hn)
   |_=>rfl
def B7 (σ:af):Cn->Option af
 |[]=>some σ
 |x::l=>match wY σ x with
  |some σ1=>B7 σ1 l
  |none=>none
theorem abH:∀{cn:Cn} {σ σ1:af},B7 σ cn=some σ1->σ.er.sk cn.er=some σ1.er
 |[],σ,σ1,h=>by simp only[B7] at h;injection h with h;subst h;rfl
 |x::l,σ,σ1,h=>by
  simp only[B7] at h
  split at h
  ·rename_i σ2 e
   have i:=an6 e
   have j:=abH h
   simp only[Cn.er] at j
   simp only[Cn.er,List.map_cons,St.sk,i,j]
  ·cases h
section
variable {ρ:Type}
def yV (n:Nat) (k:Nat->Option ρ):List Nat->Option ρ
 |[]=>k n
 |c::l=>match Nat.beq n c with
  |true=>k c
  |false=>yV n k l
theorem aaw (n:Nat) (k:Nat->Option ρ):∀l,yV n k l=k n
 |[]=>rfl
 |c::l=>by
  simp only[yV]
  split
  ·rename_i e;rw[Nat.eq_of_beq_eq_true e]
  ·exact aaw n k l
def NF (kh:List Nat) (c:SC) (k:SC->Option ρ):Option ρ:=
 match c with
 |.v t x=>k (.v t x)
 |.nil ts=>k (.nil ts)
 |.ptr n kk sz off=>yV n (fun n=>k (.ptr n kk sz off)) kh
 |.cu ts x off=>k (.cu ts x off)
 |.sl n sz lo len=>yV n (fun n=>k (.sl n sz lo len)) kh
 |.bz n a b c d e=>yV n (fun n=>k (.bz n a b c d e)) kh
 |.cQ n a b c d e=>yV n (fun n=>k (.cQ n a b c d e)) kh
 |.fn f cr=>k (.fn f cr)
 |.bm=>k .bm
theorem Yc (kh:List Nat) (c:SC) (k:SC->Option ρ):NF kh c k=k c:=by
 cases c<;>first|rfl|exact aaw _ _ _
def DA (kh:List Nat):List SC->(List SC->Option ρ)->Option ρ
 |[],k=>k []
 |c::cs,k=>NF kh c fun c=>DA kh cs fun cs=>k (c::cs)
theorem NG (kh:List Nat):∀(cs:List SC) (k:List SC->Option ρ),DA kh cs k=k cs
 |[],k=>rfl
 |c::cs,k=>by simp only[DA,Yc,NG kh cs]
def tT (kh:List Nat) (env:Nat->SV):List Nat->(List (Nat×SV)->Option ρ)->Option ρ
 |[],k=>k []
 |s::ss,k=>match env s with
  |.one .bm=>tT kh env ss k
  |.one c=>NF kh c fun c=>tT kh env ss fun l=>k ((s,.one c)::l)
  |.agg cs=>DA kh cs fun cs=>tT kh env ss fun l=>k ((s,.agg cs)::l)
  |.bn xs=>tT kh env ss fun l=>k ((s,.bn xs)::l)
def tU (kh:List Nat) (h:Nat->Option SB):List Nat->(List (Nat×Option SB)->Option ρ)->Option ρ
 |[],k=>k []
 |n::ns,k=>match h n with
  |none=>tU kh h ns k
  |some (.box cs)=>DA kh cs fun cs=>tU kh h ns fun l=>k ((n,some (.box cs))::l)
  |some (.row gr m ts xs)=>tU kh h ns fun l=>k ((n,some (.row gr m ts xs))::l)
def x5 (u:Nat->Bool):List Nat->(List Nat->Option ρ)->Option ρ
 |[],k=>k []
 |n::ns,k=>match u n with
  |true=>x5 u ns fun l=>k (n::l)
  |false=>x5 u ns k
def ve:List Nat->Nat->Bool
 |[],n=>Nat.ble aK n
 |m::l,n=>match Nat.beq n m with
  |true=>true
  |false=>ve l n
def af.AK (ke kh:List Nat) (σ:af) (k:af->Option ρ):Option ρ:=
 tT kh σ.env ke fun le=>tU kh σ.h kh fun lh=>x5 σ.used kh fun lu=>k ⟨lC le,jP lh,ve lu⟩
structure il (ke kh:List Nat) (σ:af):Prop where
 e:∀s,s∉ke->σ.env s=.one .bm
 h:∀n,n∉kh->σ.h n=none
 u:∀n,n∉kh->σ.used n=Nat.ble aK n
 p:∀n,σ.used n=false->Nat.ble aK n=false
theorem Yd (kh:List Nat) (env:Nat->SV):∀(ss:List Nat) (k:List (Nat×SV)->Option ρ),∃l:List (Nat×SV),tT kh env ss k=k l/\∀s,lC l s=if s∈ss then env s else .one .bm
 |[],k=>⟨[],rfl,fun s=>by simp[lC]⟩
 |a::ss,k=>by
  have cf:∀v:SV,env a=v->(∀k':List (Nat×SV)->Option ρ,∃l,tT kh env ss k'=k' l/\∀s,lC l s=if s∈ss then env s else .one .bm)->
    ∃l:List (Nat×SV),tT kh env ss (fun l=>k ((a,v)::l))=k l/\∀s,lC l s=if s∈a::ss then env s else .one .bm:=by
   intro v hv ih
   obtain⟨l,h1,h2⟩:=ih fun l=>k ((a,v)::l)
   refine⟨(a,v)::l,h1,fun s=>?_⟩
   simp only[lC,iP]
   split
   ·rename_i e
    subst e
    rw[if_pos (by simp)]
    exact hv.symm
   ·rename_i aB
    rw[h2 s]
    by_cases hs:s∈ss
    ·rw[if_pos hs,if_pos (by simp[hs])]
    ·rw[if_neg hs,if_neg (by simp[hs,aB])]
  have ih:=fun k':List (Nat×SV)->Option ρ=>Yd kh env ss k'
  simp only[tT]
  split
  ·rename_i hv
   obtain⟨l,h1,h2⟩:=ih k
   refine⟨l,h1,fun s=>?_⟩
   rw[h2 s]
   by_cases hs:s∈ss
   ·rw[if_pos hs,if_pos (by simp[hs])]
   ·rw[if_neg hs]
    by_cases wg:s=a
    ·subst wg;rw[if_pos (by simp),hv]
    ·rw[if_neg (by simp[hs,wg])]
  ·rename_i c hc hv
   rw[Yc]
   exact cf _ hv ih
  ·rename_i cs hv
   rw[NG]
   exact cf _ hv ih
  ·rename_i xs hv
   exact cf _ hv ih
theorem Ye (kh:List Nat) (h:Nat->Option SB):∀(ns:List Nat) (k:List (Nat×Option SB)->Option ρ),∃l:List (Nat×Option SB),tU kh h ns k=k l/\∀n,jP l n=if n∈ns then h n else none
 |[],k=>⟨[],rfl,fun s=>by simp[jP]⟩
 |a::ns,k=>by
  have cf:∀v:Option SB,h a=v->(∀k':List (Nat×Option SB)->Option ρ,∃l,tU kh h ns k'=k' l/\∀s,jP l s=if s∈ns then h s else none)->
    ∃l:List (Nat×Option SB),tU kh h ns (fun l=>k ((a,v)::l))=k l/\∀s,jP l s=if s∈a::ns then h s else none:=by
   intro v hv ih
   obtain⟨l,h1,h2⟩:=ih fun l=>k ((a,v)::l)
   refine⟨(a,v)::l,h1,fun s=>?_⟩
   simp only[jP,iP]
   split
   ·rename_i e
    subst e
    rw[if_pos (by simp)]
    exact hv.symm
   ·rename_i aB
    rw[h2 s]
    by_cases hs:s∈ns
    ·rw[if_pos hs,if_pos (by simp[hs])]
    ·rw[if_neg hs,if_neg (by simp[hs,aB])]
  have ih:=fun k':List (Nat×Option SB)->Option ρ=>Ye kh h ns k'
  simp only[tU]
  split
  ·rename_i hv
   obtain⟨l,h1,h2⟩:=ih k
   refine⟨l,h1,fun s=>?_⟩
   rw[h2 s]
   by_cases hs:s∈ns
   ·rw[if_pos hs,if_pos (by simp[hs])]
   ·rw[if_neg hs]
    by_cases wg:s=a
    ·subst wg;rw[if_pos (by simp),hv]
    ·rw[if_neg (by simp[hs,wg])]
  ·rename_i cs hv
   rw[NG]
   exact cf _ hv ih
  ·rename_i gr m ts xs hv
   exact cf _ hv ih
theorem NH (u:Nat->Bool) (hp:∀n,u n=false->Nat.ble aK n=false):∀(ns:List Nat) (k:List Nat->Option ρ),∃l:List Nat,x5 u ns k=k l/\∀n,ve l n=if n∈ns then u n else Nat.ble aK n
 |[],k=>⟨[],rfl,fun s=>by simp[ve]⟩
 |a::ns,k=>by
  simp only[x5]
  split
  ·rename_i hv
   obtain⟨l,h1,h2⟩:=NH u hp ns fun l=>k (a::l)
   refine⟨a::l,h1,fun s=>?_⟩
   simp only[ve]
   split
   ·rename_i e
    have:=Nat.eq_of_beq_eq_true e
    subst this
    rw[if_pos (by simp)]
    exact hv.symm
   ·rename_i e
    have aB:=wK e
    rw[h2 s]
    by_cases hs:s∈ns
    ·rw[if_pos hs,if_pos (by simp[hs])]
    ·rw[if_neg hs,if_neg (by simp[hs,aB])]
  ·rename_i hv
   obtain⟨l,h1,h2⟩:=NH u hp ns k
   refine⟨l,h1,fun s=>?_⟩
   rw[h2 s]
   by_cases hs:s∈ns
   ·rw[if_pos hs,if_pos (by simp[hs])]
   ·rw[if_neg hs]
    by_cases wg:s=a
    ·subst wg;rw[if_pos (by simp),hv,hp _ hv]
    ·rw[if_neg (by simp[hs,wg])]
theorem It {ke kh:List Nat} {σ:af} (W:il ke kh σ) (k:af->Option ρ):σ.AK ke kh k=k σ:=by
 unfold af.AK
 obtain⟨le,e1,e2⟩:=Yd kh σ.env ke fun le=>tU kh σ.h kh fun lh=>x5 σ.used kh fun lu=>k ⟨lC le,jP lh,ve lu⟩
 rw[e1]
 obtain⟨lh,h1,h2⟩:=Ye kh σ.h kh fun lh=>x5 σ.used kh fun lu=>k ⟨lC le,jP lh,ve lu⟩
 rw[h1]
 obtain⟨lu,u1,u2⟩:=NH σ.used W.p kh fun lu=>k ⟨lC le,jP lh,ve lu⟩
 rw[u1]
 have a1:lC le=σ.env:=by
  funext s
  rw[e2 s]
  split
  ·rfl
  ·rename_i hs;exact(W.e s hs).symm
 have a2:jP lh=σ.h:=by
  funext s
  rw[h2 s]
  split
  ·rfl
  ·rename_i hs;exact(W.h s hs).symm
 have a3:ve lu=σ.used:=by
  funext s
  rw[u2 s]
  split
  ·rfl
  ·rename_i hs;exact(W.u s hs).symm
 rw[a1,a2,a3]
theorem il.ia (ke kh:List Nat) (σ:af):il ke kh (σ.ia ke kh):=
 ⟨fun s hs=>UM _ _ _ s hs,fun n hn=>UN _ _ _ n hn,fun n hn=>by show(Nat.ble aK n||rZ _ _ n)=_;rw[UO _ _ n hn,Bool.or_false],
  fun n hn=>by have bj:(Nat.ble aK n||rZ _ _ n)=false:=hn;simp only[Bool.or_eq_false_iff] at bj;exact bj.1⟩
theorem il.be {ke kh:List Nat} {σ σ1:af} {a c:Nat} (W:il ke kh σ) (hc:c∈kh) (h:σ.be a c=some σ1):il ke kh σ1:=by
 unfold af.be at h
 split at h
 ·injection h with h;subst h;exact W
 ·split at h
  ·injection h with h;subst h;exact W
  ·rename_i wb
   split at h
   ·cases h
   ·rename_i IZ
    injection h with h
    subst h
    refine⟨fun s hs=>?_,fun n hn=>?_,fun n hn=>?_,fun n hn=>?_⟩
    ·show(σ.env s).be a c=_
     rw[W.e s hs];rfl
    ·simp only
     split
     ·rename_i e;exact absurd (by rw[Nat.eq_of_beq_eq_true e];exact hc) hn
     ·split
      ·rfl
      ·rw[W.h n hn];rfl
    ·simp only
     split
     ·rename_i e;exact absurd (by rw[Nat.eq_of_beq_eq_true e];exact hc) hn
     ·split
      ·rename_i e;rw[Nat.eq_of_beq_eq_true e,wb]
      ·exact W.u n hn
    ·simp only at hn
     split at hn
     ·rename_i e;rw[Nat.eq_of_beq_eq_true e];exact W.p c IZ
     ·split at hn
      ·rename_i e;rw[Nat.eq_of_beq_eq_true e,wb]
      ·exact W.p n hn
theorem il.ins {ke kh:List Nat} {σ σ1:af} {c:Nat} {b:SB} (W:il ke kh σ) (hc:c∈kh) (h:σ.ins c b=some σ1):il ke kh σ1:=by
 unfold af.ins at h
 split at h
 ·cases h
 ·rename_i IZ
  injection h with h
  subst h
  refine⟨W.e,fun n hn=>?_,fun n hn=>?_,fun n hn=>?_⟩
  ·show au σ.h c _ n=_
   rw[cq _ _ _ _ (fun e=>hn (by rw[e];exact hc))];exact W.h n hn
  ·show au σ.used c _ n=_
   rw[cq _ _ _ _ (fun e=>hn (by rw[e];exact hc))];exact W.u n hn
  ·have bj:au σ.used c true n=false:=hn
   by_cases e:n=c
   ·subst e;rw[bF] at bj;cases bj
   ·rw[cq _ _ _ _ e] at bj;exact W.p n bj
theorem il.jJ {ke kh:List Nat} {σ:af} (W:il ke kh σ) (c:Nat) (m:Mode):il ke kh (σ.jJ c m):=by
 cases m with
 |live=>exact W
 |ae=>exact W
 |aD=>
  simp only[af.jJ]
  split
  ·rename_i gr ts xs hn
   exact⟨W.e,fun n hk=>by
    show au σ.h c _ n=none
    have uj:n≠c:=fun e=>by subst e;rw[W.h n hk] at hn;cases hn
    rw[cq _ _ _ _ uj];exact W.h n hk,W.u,W.p⟩
  ·exact W
theorem il.EN {ke kh:List Nat} {σ σ1:af} {a c:Nat} {m:Mode} (W:il ke kh σ) (hc:c∈kh) (h:(σ.be a c).map (fun σ1=>σ1.jJ c m)=some σ1):il ke kh σ1:=by
 rw[Option.map_eq_some_iff] at h
 obtain⟨σ2,e,rfl⟩:=h
 exact(W.be hc e).jJ c m
theorem il.canon {ke kh:List Nat} {σ σ1:af} {x:Bool×Nat×Nat×Nat×Mode×List Ty} (W:il ke kh σ) (hc:x.2.2.2.1∈kh) (h:wY σ x=some σ1):il ke kh σ1:=by
 obtain⟨b,n,j,c,m,us⟩:=x
 simp only at hc
 have fY:some σ=some σ1->il ke kh σ1:=fun h=>by injection h with h;subst h;exact W
 cases b with
 |true=>
  simp only[wY] at h
  split at h
  ·rename_i cs hn
   split at h
   ·exact W.EN hc h
   ·split at h
    ·exact fY h
    ·split at h
     ·rename_i σ2 e
      injection h with h
      subst h
      have W2:=W.ins hc e
      have OC:n∈kh:=by
       rcases Decidable.em (n∈kh) with h|h
       ·exact h
       ·rw[W.h n h] at hn;cases hn
      exact⟨W2.e,fun q hq=>by show au σ2.h n _ q=_;rw[cq _ _ _ _ (fun e=>hq (by rw[e];exact OC))];exact W2.h q hq,W2.u,W2.p⟩
     ·cases h
   ·exact fY h
  ·exact fY h
 |false=>
  simp only[wY] at h
  split at h
  ·exact W.EN hc h
  ·rename_i ts hn
   split at h
   ·exact fY h
   ·split at h
    ·rename_i σ2 e
     injection h with h
     subst h
     have W2:=W.ins hc e
     have OC:n∈ke:=by
      rcases Decidable.em (n∈ke) with h|h
      ·exact h
      ·rw[W.e n h] at hn;cases hn
     exact⟨fun q hq=>by show au σ2.env n _ q=_;rw[cq _ _ _ _ (fun e=>hq (by rw[e];exact OC))];exact W2.e q hq,W2.h,W2.u,W2.p⟩
    ·cases h
  ·exact fY h
def J1 (ke kh:List Nat):Cn->af->(af->Option ρ)->Option ρ
 |[],σ,k=>k σ
 |x::l,σ,k=>match wY σ x with
  |some σ1=>match List.elem x.2.2.2.1 kh with
   |true=>σ1.AK ke kh fun σ2=>J1 ke kh l σ2 k
   |false=>none
  |none=>none
theorem abG {ke kh:List Nat}:∀{cn:Cn} {σ:af} {k:af->Option ρ} {r:ρ},il ke kh σ->J1 ke kh cn σ k=some r->∃σ1,B7 σ cn=some σ1/\k σ1=some r
 |[],σ,k,r,W,h=>⟨σ,rfl,h⟩
 |x::l,σ,k,r,W,h=>by
  simp only[J1] at h
  split at h
  ·rename_i σ1 e
   split at h
   ·rename_i hm
    have W1:=W.canon (by simpa using hm) e
    rw[It W1] at h
    obtain⟨σ2,h1,h2⟩:=abG W1 h
    exact⟨σ2,by simp only[B7,e,h1],h2⟩
   ·cases h
  ·cases h
def Ca (sh:jp) (kh:List Nat) (cn:Cn) (σ:af) (k:sh.L.D->Option ρ):Option ρ:=
 (σ.ia sh.ke kh).AK sh.ke kh fun σ1=>(σ1.ia sh.ke kh).AK sh.ke kh fun σ2=>J1 sh.ke kh cn σ2 fun gI=>(gI.ia sh.ke kh).AK sh.ke kh fun σ4=>sh.flat kh σ4 k
theorem J6 {sh:jp} {kh:List Nat} {cn:Cn} {σ:af} {k:sh.L.D->Option ρ} {r:ρ} (h:Ca sh kh cn σ k=some r):
  ∃x,σ.er.head sh.ke kh cn.er=some (sh.un x).er/\k x=some r:=by
 unfold Ca at h
 rw[It (il.ia _ _ _),It (il.ia _ _ _)] at h
 obtain⟨σ1,e,h⟩:=abG (il.ia _ _ _) h
 rw[It (il.ia _ _ _)] at h
 obtain⟨x,h1,h2⟩:=jp.oL h (fun s hs=>UM _ _ _ s hs) (fun n hn=>⟨UN _ _ _ n hn,by show(Nat.ble aK n||rZ _ _ n)=_;rw[UO _ _ n hn,Bool.or_false]⟩)
 have i:=abH e
 rw[af.RE,af.RE] at i
 exact⟨x,by simp only[St.head,i,<-h1,af.RE],h2⟩
end
inductive bw where
 |skip
 |ab (rh:Bool) (ops:List fi)
 |qD (ps:List (Nat×Nat)) (ops:List fi)
 |seq (a b:bw)
 |cond (c:cC) (a b:bw)
 |block (id:Nat) (c:bw)
 |join (sh:jp) (kh:List Nat) (cn:Cn) (c:bw)
 |loop (id:Nat) (sh:jp) (kh:List Nat) (cn:Cn) (c:bw)
 |exit (id:Nat)
 |ret
def bw.er:bw->lg
 |.skip=>.skip
 |.ab d ops=>.ab d (ops.map fi.er)
 |.qD ps ops=>.qD ps (ops.map fi.er)
 |.seq a b=>.seq a.er b.er
 |.cond c a b=>.cond c.er a.er b.er
 |.block id c=>.block id c.er
 |.join sh kh cn c=>.join sh.ke kh cn.er c.er
 |.loop id sh kh cn c=>.loop id sh.ke kh cn.er c.er
 |.exit id=>.exit id
 |.ret=>.ret
def af.PK (σ:af) (c:cC) (b:Bool):af:=
 match c with
 |.t n=>σ.lit n b
 |.k _=>σ
def ww {X ρ:Type} (o:Option ρ):Option (X⊕ρ):=o.aa fun r=>some (.inr r)
theorem Bu {X ρ:Type} {o:Option ρ} {s:X⊕ρ} (h:ww o=some s):∃r,o=some r/\s=.inr r:=by
 unfold ww at h
 rw[eP] at h
 obtain⟨r,h1,h2⟩:=h
 injection h2 with h2
 exact⟨r,h1,h2.symm⟩
def kT (N:Nat) (T:List ar):bw->{ρ:Type}->af->(af->Option ρ)->(Nat->af->Option ρ)->(af->Option ρ)->Option ρ
 |.skip,_,σ,k,_,_=>k σ
 |.ab _ ops,_,σ,k,_,_=>qK T ops σ k
 |.qD ps ops,_,σ,k,_,_=>qL T ps ops [] σ k
 |.seq a b,_,σ,k,ex,kr=>kT N T a σ (fun σ1=>kT N T b σ1 k ex kr) ex kr
 |.cond c a b,_,σ,k,ex,kr=>match σ.ev c with
  |.one (.v .bool t)=>aC t (kT N T a (σ.PK c true) k ex kr) (kT N T b (σ.PK c false) k ex kr)
  |_=>none
 |.block id c,_,σ,k,ex,kr=>kT N T c σ k (fun i σ1=>match Nat.beq i id with|true=>k σ1|false=>ex i σ1) kr
 |.join sh kh cn c,ρ,σ,k,ex,kr=>
  cd (kT N T c (ρ:=sh.L.D⊕ρ) σ (fun σ1=>Ca sh kh cn σ1 fun x=>some (.inl x)) (fun i σ1=>ww (ex i σ1)) (fun σ1=>ww (kr σ1))) fun x=>k (sh.un x)
 |.loop id sh kh cn c,ρ,σ,k,ex,kr=>
  Ca sh kh cn σ fun x0=>bN N (fun x=>kT N T c (ρ:=sh.L.D⊕ρ) (sh.un x) (fun σ1=>Ca sh kh cn σ1 fun x'=>some (.inl x')) (fun i σ1=>ww (ex i σ1)) (fun σ1=>ww (kr σ1))) x0
 |.exit id,_,σ,_,ex,_=>ex id σ
 |.ret,_,σ,_,_,kr=>kr σ
def VS {ρ:Type} (k:af->Option ρ) (ex:Nat->af->Option ρ) (kr:af->Option ρ) (r:ρ):sd->Prop
 |.fG τ=>∃eB:af,τ=eB.er/\k eB=some r
 |.ext i τ=>∃eB:af,τ=eB.er/\ex i eB=some r
 |.ret τ=>∃eB:af,τ=eB.er/\kr eB=some r
theorem Z0 {σ:af} {c:cC} {b:Bool} (h:σ.ev c=.one (.v .bool b)):(σ.PK c b).er=σ.er:=by
 cases c with
 |t n=>exact af.Df h
 |k v=>rfl
theorem rY {T:List ar}:∀(m:bw) {ρ:Type} {σ:af} {k:af->Option ρ} {ex:Nat->af->Option ρ} {kr:af->Option ρ} {r:ρ},kT ax T m σ k ex kr=some r->
    ∃o:sd,dX (cL T) m.er σ.er=some o/\VS k ex kr r o
  |.skip,ρ,σ,k,ex,kr,r,h=>⟨.fG σ.er,rfl,σ,rfl,h⟩
  |.ab d ops,ρ,σ,k,ex,kr,r,h=>by
   obtain⟨σ1,h1,h2⟩:=Uj (h:qK T ops σ k=some r)
   exact⟨.fG σ1.er,by simp only[bw.er,dX,h1],σ1,rfl,h2⟩
  |.qD ps ops,ρ,σ,k,ex,kr,r,h=>by
   obtain⟨σ1,fs,h1,h2,h3⟩:=Ui (h:qL T ps ops [] σ k=some r)
   exact⟨.fG σ1.er,by simp only[bw.er,dX,h1,h2,cond_true],σ1,rfl,h3⟩
  |.seq a b,ρ,σ,k,ex,kr,r,h=>by
   obtain⟨o,h1,h2⟩:=rY a (h:kT ax T a σ (fun σ1=>kT ax T b σ1 k ex kr) ex kr=some r)
   cases o with
   |fG τ=>
    obtain⟨eB,rfl,h2⟩:=h2
    obtain⟨o2,h3,h4⟩:=rY b h2
    exact⟨o2,by simp only[bw.er,dX,h1,h3],h4⟩
   |ext i τ=>exact⟨.ext i τ,by simp only[bw.er,dX,h1],h2⟩
   |ret τ=>exact⟨.ret τ,by simp only[bw.er,dX,h1],h2⟩
  |.cond c a b,ρ,σ,k,ex,kr,r,h=>by
   simp only[kT] at h
   split at h
   · rename_i t hc
     have cv:σ.er.ev c.er=.one (.c (.bool t)):=by rw[af.di,hc];rfl
     cases ht:(t:Bool) with
     |true=>
      rw[ht] at h
      simp only[HN] at h
      obtain⟨o,h1,h2⟩:=rY a h
      rw[Z0 (by rw[hc,ht])] at h1
      exact⟨o,by simp only[bw.er,dX,cv,ht,if_true,h1],h2⟩
     |false=>
      rw[ht] at h
      simp only[C3] at h
      obtain⟨o,h1,h2⟩:=rY b h
      rw[Z0 (by rw[hc,ht])] at h1
      exact⟨o,by simp only[bw.er,dX,cv,ht,Bool.false_eq_true,if_false,h1],h2⟩
   · cases h
  |.block id c,ρ,σ,k,ex,kr,r,h=>by
   obtain⟨o,h1,h2⟩:=rY c (h:kT ax T c σ k (fun i σ1=>match Nat.beq i id with|true=>k σ1|false=>ex i σ1) kr=some r)
   cases o with
   |fG τ=>exact⟨.fG τ,by simp only[bw.er,dX,h1],h2⟩
   |ret τ=>exact⟨.ret τ,by simp only[bw.er,dX,h1],h2⟩
   |ext i τ=>
    obtain⟨eB,rfl,h2⟩:=h2
    simp only at h2
    split at h2
    · rename_i e
      exact⟨.fG eB.er,by simp only[bw.er,dX,h1,if_pos (Nat.eq_of_beq_eq_true e)],eB,rfl,h2⟩
    · rename_i e
      exact⟨.ext i eB.er,by simp only[bw.er,dX,h1,if_neg (wK e)],eB,rfl,h2⟩
  |.join sh kh cn c,ρ,σ,k,ex,kr,r,h=>by
   simp only[kT,cd,Option.bind_eq_some_iff] at h
   obtain⟨s,hs,h⟩:=h
   obtain⟨o,h1,h2⟩:=rY c hs
   cases o with
   |fG τ=>
    obtain⟨eB,rfl,h2⟩:=h2
    obtain⟨x,h3,h4⟩:=J6 h2
    injection h4 with h4
    subst h4
    exact⟨.fG (sh.un x).er,by simp only[bw.er,dX,h1,h3],sh.un x,rfl,h⟩
   |ext i τ=>
    obtain⟨eB,rfl,h2⟩:=h2
    obtain⟨y,h3,rfl⟩:=Bu h2
    injection h with h
    subst h
    exact⟨.ext i eB.er,by simp only[bw.er,dX,h1],eB,rfl,h3⟩
   |ret τ=>
    obtain⟨eB,rfl,h2⟩:=h2
    obtain⟨y,h3,rfl⟩:=Bu h2
    injection h with h
    subst h
    exact⟨.ret eB.er,by simp only[bw.er,dX,h1],eB,rfl,h3⟩
  |.loop id sh kh cn c,ρ,σ,k,ex,kr,r,h=>by
   simp only[kT] at h
   obtain⟨x0,h0,h⟩:=J6 h
   simp only[bw.er,dX]
   have cf:∀(n:Nat) (x0:sh.L.D) (KN:St),KN.head sh.ke kh cn.er=some (sh.un x0).er->
       bN n (fun x=>kT ax T c (ρ:=sh.L.D⊕ρ) (sh.un x) (fun σ1=>Ca sh kh cn σ1 fun x'=>some (.inl x')) (fun i σ1=>ww (ex i σ1)) (fun σ1=>ww (kr σ1))) x0=some r->
       ∃o:sd,BE n (fun σ=>match σ.head sh.ke kh cn.er with|some σ1=>dX (cL T) c.er σ1|none=>none) KN=some o/\VS k ex kr r o:=by
    intro n
    induction n with
    |zero=>intro x0 KN h0 h;simp[bN] at h
    |succ n ih=>
     intro x0 KN h0 h
     simp only[bN] at h
     simp only[BE,h0]
     split at h
     · rename_i x' hb
       obtain⟨o,h1,h2⟩:=rY c hb
       cases o with
       |fG τ=>
        obtain⟨eB,rfl,h2⟩:=h2
        obtain⟨x2,h3,h4⟩:=J6 h2
        injection h4 with h4
        injection h4 with h4
        subst h4
        simp only[h1]
        exact ih x2 _ h3 h
       |ext i τ=>
        obtain⟨eB,rfl,h2⟩:=h2
        obtain⟨y,_,e⟩:=Bu h2
        cases e
       |ret τ=>
        obtain⟨eB,rfl,h2⟩:=h2
        obtain⟨y,_,e⟩:=Bu h2
        cases e
     · rename_i y hb
       injection h with h
       subst h
       obtain⟨o,h1,h2⟩:=rY c hb
       cases o with
       |fG τ=>
        obtain⟨eB,rfl,h2⟩:=h2
        obtain⟨x2,h3,h4⟩:=J6 h2
        injection h4 with h4
        cases h4
       |ext i τ=>
        obtain⟨eB,rfl,h2⟩:=h2
        obtain⟨y',h3,e⟩:=Bu h2
        injection e with e
        subst e
        exact⟨.ext i eB.er,by simp only[h1],eB,rfl,h3⟩
       |ret τ=>
        obtain⟨eB,rfl,h2⟩:=h2
        obtain⟨y',h3,e⟩:=Bu h2
        injection e with e
        subst e
        exact⟨.ret eB.er,by simp only[h1],eB,rfl,h3⟩
     · cases h
   exact cf ax x0 σ.er h0 h
  |.exit id,ρ,σ,k,ex,kr,r,h=>⟨.ext id σ.er,rfl,σ,rfl,h⟩
  |.ret,ρ,σ,k,ex,kr,r,h=>⟨.ret σ.er,rfl,σ,rfl,h⟩
end Go.Am
