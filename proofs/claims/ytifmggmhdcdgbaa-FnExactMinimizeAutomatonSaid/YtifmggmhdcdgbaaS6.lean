/- S6: heads and code of the typed evaluator. No condition. -/
import Derived.Test.YtifmggmhdcdgbaaS5
set_option linter.unusedVariables false
set_option linter.unusedSimpArgs false
namespace Go.Am
def SC.fa (ok:Nat->Bool):SC->SC
 |.ptr n k sz off=>match ok n with|true=>.ptr n k sz off|false=>.bj
 |.sl n sz lo len=>match ok n with|true=>.sl n sz lo len|false=>.bj
 |.bt n k ax off sz len=>match ok n with|true=>.bt n k ax off sz len|false=>.bj
 |.cB n k ax off sz i=>match ok n with|true=>.cB n k ax off sz i|false=>.bj
 |x=>x
def SC.cH (ok:Nat->Bool):SC->SC
 |.fn f ca=>.fn f (ca.map (SC.fa ok))
 |.v t x=>.v t x
 |.nil ts=>.nil ts
 |.ptr n k sz off=>SC.fa ok (.ptr n k sz off)
 |.cf ts x off=>.cf ts x off
 |.sl n sz lo len=>SC.fa ok (.sl n sz lo len)
 |.bt n k ax off sz len=>SC.fa ok (.bt n k ax off sz len)
 |.cB n k ax off sz i=>SC.fa ok (.cB n k ax off sz i)
 |.bj=>.bj
theorem SC.B2 (ok:Nat->Bool) (c:SC):(c.fa ok).er=c.er.fa ok:=by
 cases c with
 |ptr n k sz off=>simp only[SC.fa,SC.er,ah.fa];cases ok n<;>rfl
 |sl n sz lo len=>simp only[SC.fa,SC.er,ah.fa];cases ok n<;>rfl
 |bt n k ax off sz len=>simp only[SC.fa,SC.er,ah.fa];cases ok n<;>rfl
 |cB n k ax off sz i=>simp only[SC.fa,SC.er,ah.fa];cases ok n<;>rfl
 |_=>rfl
theorem SC.zv (ok:Nat->Bool) (c:SC):(c.cH ok).er=c.er.cH ok:=by
 cases c with
 |fn f ca=>
  simp only[SC.cH,SC.er,ah.cH,SC.Cf,List.map_map]
  congr 1
  exact List.map_congr_left fun c _=>SC.B2 ok c
 |ptr n k sz off=>exact SC.B2 ok (.ptr n k sz off)
 |sl n sz lo len=>exact SC.B2 ok (.sl n sz lo len)
 |bt n k ax off sz len=>exact SC.B2 ok (.bt n k ax off sz len)
 |cB n k ax off sz i=>exact SC.B2 ok (.cB n k ax off sz i)
 |_=>rfl
def SV.cH (ok:Nat->Bool):SV->SV
 |.one c=>.one (c.cH ok)
 |.agg cs=>.agg (cs.map (SC.cH ok))
 |.bk xs=>.bk (xs.map fun x=>(x.1,x.2.map (SC.cH ok)))
theorem KS (ok:Nat->Bool) (cs:List SC):(cs.map (SC.cH ok)).map SC.er=(cs.map SC.er).map (ah.cH ok):=by
 simp only[List.map_map]
 exact List.map_congr_left fun c _=>SC.zv ok c
theorem SV.zv (ok:Nat->Bool) (v:SV):(v.cH ok).er=v.er.cH ok:=by
 cases v with
 |one c=>simp only[SV.cH,SV.er,aj.cH,SC.zv]
 |agg cs=>simp only[SV.cH,SV.er,aj.cH,KS]
 |bk xs=>
  simp only[SV.cH,SV.er,aj.cH,List.map_map]
  congr 1
  exact List.map_congr_left fun x _=>by simp only[Function.comp];rw[KS]
def SB.cH (ok:Nat->Bool):SB->SB
 |.box cs=>.box (cs.map (SC.cH ok))
 |.row gr m ts xs=>.row gr m ts xs
theorem SB.zv (ok:Nat->Bool) (b:SB):(b.cH ok).er=b.er.cH ok:=by
 cases b with
 |box cs=>simp only[SB.cH,SB.er,aq.cH,KS]
 |row gr m ts xs=>rfl
def yH (ok:Nat->Bool) (env:Nat->SV):List Nat->(Nat->SV)
 |[]=>fun _=>.one .bj
 |s::ss=>av (yH ok env ss) s ((env s).cH ok)
def uN (ok:Nat->Bool) (h:Nat->Option SB):List Nat->(Nat->Option SB)
 |[]=>fun _=>none
 |s::ss=>match ok s with
  |true=>match h s with
   |some b=>av (uN ok h ss) s (some (b.cH ok))
   |none=>uN ok h ss
  |false=>uN ok h ss
def rC (ok:Nat->Bool):List Nat->(Nat->Bool)
 |[]=>fun _=>false
 |s::ss=>match ok s with
  |true=>av (rC ok ss) s true
  |false=>rC ok ss
theorem ZC (ok:Nat->Bool) (env:Nat->SV):∀l,pN (yH ok env l)=uD ok (pN env) l
 |[]=>rfl
 |s::ss=>by simp only[yH,uD,vn,ZC ok env ss,SV.zv];rfl
theorem I9 (ok:Nat->Bool) (h:Nat->Option SB):∀l,cT (uN ok h l)=qw ok (cT h) l
 |[]=>rfl
 |s::ss=>by
  simp only[uN,qw]
  cases ok s with
  |false=>simp only[I9 ok h ss,Bool.false_eq_true,if_false]
  |true=>
   have:cT h s=(h s).map SB.er:=rfl
   simp only[if_true,this]
   cases h s with
   |none=>simp only[Option.map_none,I9 ok h ss]
   |some b=>simp only[GL,I9 ok h ss,Option.map_some,SB.zv]
theorem ZD (ok:Nat->Bool):∀l,rC ok l=uE ok l
 |[]=>rfl
 |s::ss=>by
  simp only[rC,uE]
  cases ok s<;>simp[ZD ok ss]
theorem SK (ok:Nat->Bool) (env:Nat->SV):∀(l:List Nat) (s:Nat),s∉l->yH ok env l s=.one .bj
 |[],s,_=>rfl
 |a::l,s,h=>by
  simp only[List.mem_cons,not_or] at h
  simp only[yH,cd _ _ _ _ h.1,SK ok env l s h.2]
theorem SL (ok:Nat->Bool) (hp:Nat->Option SB):∀(l:List Nat) (s:Nat),s∉l->uN ok hp l s=none
 |[],s,_=>rfl
 |a::l,s,h=>by
  simp only[List.mem_cons,not_or] at h
  have ih:=SL ok hp l s h.2
  simp only[uN]
  cases ok a with
  |false=>exact ih
  |true=>
   cases hp a with
   |none=>exact ih
   |some b=>simp only[cd _ _ _ _ h.1];exact ih
theorem SM (ok:Nat->Bool):∀(l:List Nat) (s:Nat),s∉l->rC ok l s=false
 |[],s,_=>rfl
 |a::l,s,h=>by
  simp only[List.mem_cons,not_or] at h
  have ih:=SM ok l s h.2
  simp only[rC]
  cases ok a with
  |false=>exact ih
  |true=>simp only[cd _ _ _ _ h.1];exact ih
def SC.wv (n:Nat):SC->Bool
 |.ptr m _ _ _=>Nat.beq m n
 |.sl m _ _ _=>Nat.beq m n
 |.bt m _ _ _ _ _=>Nat.beq m n
 |.cB m _ _ _ _ _=>Nat.beq m n
 |_=>false
def SC.gD (n:Nat):SC->Bool
 |.fn _ ca=>ca.any (SC.wv n)
 |.ptr m _ _ _=>Nat.beq m n
 |.sl m _ _ _=>Nat.beq m n
 |.bt m _ _ _ _ _=>Nat.beq m n
 |.cB m _ _ _ _ _=>Nat.beq m n
 |.v _ _=>false
 |.nil _=>false
 |.cf _ _ _=>false
 |.bj=>false
theorem BZ (m n:Nat):(m==n)=Nat.beq m n:=by
 rw[Bool.eq_iff_iff,beq_iff_eq]
 exact⟨fun h=>by rw[h];exact Nat.beq_refl n,Nat.eq_of_beq_eq_true⟩
theorem SC.ajF (n:Nat) (c:SC):c.er.wv n=c.wv n:=by
 cases c<;>simp[SC.er,ah.wv,SC.wv,BZ]
theorem SC.IB (n:Nat) (c:SC):c.er.gD n=c.gD n:=by
 cases c with
 |fn f ca=>
  simp only[SC.er,SC.Cf,ah.gD,SC.gD,List.any_map]
  congr 1
  funext c
  exact SC.ajF n c
 |ptr m _ _ _=>exact BZ m n
 |sl m _ _ _=>exact BZ m n
 |bt m _ _ _ _ _=>exact BZ m n
 |cB m _ _ _ _ _=>exact BZ m n
 |_=>rfl
def SV.gD (n:Nat):SV->Bool
 |.one c=>c.gD n
 |.agg cs=>cs.any (SC.gD n)
 |.bk xs=>xs.any fun x=>x.2.any (SC.gD n)
theorem PV (n:Nat) (cs:List SC):(cs.map SC.er).any (ah.gD n)=cs.any (SC.gD n):=by
 rw[List.any_map]
 congr 1
 funext c
 exact SC.IB n c
theorem SV.IB (n:Nat) (v:SV):v.er.gD n=v.gD n:=by
 cases v with
 |one c=>exact SC.IB n c
 |agg cs=>exact PV n cs
 |bk xs=>
  simp only[SV.er,aj.gD,SV.gD,List.any_map]
  congr 1
  funext x
  exact PV n x.2
def YJ (n:Nat):Option SB->Bool
 |some (.box cs)=>cs.any (SC.gD n)
 |_=>false
def GK (n:Nat):List Nat->Bool
 |[]=>false
 |m::l=>match Nat.beq n m with
  |true=>true
  |false=>GK n l
theorem UO (n:Nat):∀l:List Nat,GK n l=l.contains n
 |[]=>rfl
 |m::l=>by
  simp only[GK,List.contains_cons]
  have e:(n==m)=Nat.beq n m:=by cases h:Nat.beq n m with
   |true=>simpa using Nat.eq_of_beq_eq_true h
   |false=>simp;intro h';rw[h',Nat.beq_refl] at h;cases h
  rw[e,UO n l]
  cases Nat.beq n m<;>rfl
def af.iT (σ:af) (ke kh:List Nat):Nat->Bool:=fun n=>(σ.h n).isSome&&GK n kh&&(Nat.ble aI n||ke.any (fun s=>(σ.env s).gD n)||kh.any fun k=>YJ n (σ.h k))
theorem af.aiD (σ:af) (ke kh:List Nat):σ.er.iT ke kh=σ.iT ke kh:=by
 funext n
 simp only[St.iT,af.iT]
 have h1:(σ.er.h n).isSome=(σ.h n).isSome:=UW σ.h n
 have h2:(fun s=>(σ.er.env s).gD n)=fun s=>(σ.env s).gD n:=by funext s;exact SV.IB n _
 have h3:(fun k=>match σ.er.h k with|some (.box cs)=>cs.any (·.gD n)|_=>false)=fun k=>YJ n (σ.h k):=by
  funext k
  have:σ.er.h k=(σ.h k).map SB.er:=rfl
  rw[this]
  cases σ.h k with
  |none=>rfl
  |some b=>cases b with
   |box cs=>exact PV n cs
   |row gr m ts xs=>rfl
 rw[h1,h2,UO,Bool.and_comm (x:=(σ.h n).isSome)]
 exact congrArg (fun g:Nat->Bool=>(kh.contains n&&(σ.h n).isSome&&((Nat.ble aI n||ke.any fun s=>SV.gD n (σ.env s))||kh.any g))) h3
def af.ig (σ:af) (ke kh:List Nat):af:=
 {env:=yH (σ.iT ke kh) σ.env ke,h:=uN (σ.iT ke kh) σ.h kh,used:=fun n=>Nat.ble aI n||rC (σ.iT ke kh) kh n}
theorem af.P0 (σ:af) (ke kh:List Nat):(σ.ig ke kh).er=σ.er.ig ke kh:=by
 simp only[af.ig,St.ig,af.aiD]
 have e1:=ZC (σ.iT ke kh) σ.env ke
 have e2:=I9 (σ.iT ke kh) σ.h kh
 have e3:=ZD (σ.iT ke kh) kh
 show St.mk (pN (yH (σ.iT ke kh) σ.env ke)) (cT (uN (σ.iT ke kh) σ.h kh)) (fun n=>Nat.ble aI n||rC (σ.iT ke kh) kh n)=_
 rw[e1,e2,e3]
 rfl
def s0 (x c n:Nat):Nat:=match Nat.beq n x with|true=>c|false=>n
theorem Ed (x c n:Nat):s0 x c n=nG x c n:=by
 unfold s0 nG
 cases h:Nat.beq n x with
 |true=>rw[if_pos (Nat.eq_of_beq_eq_true h)]
 |false=>rw[if_neg (fun e=>by rw[e,Nat.beq_refl] at h;cases h)]
def SC.oC (x c:Nat):SC->SC
 |.ptr n k sz off=>.ptr (s0 x c n) k sz off
 |.sl n sz lo len=>.sl (s0 x c n) sz lo len
 |.bt n k ax off sz len=>.bt (s0 x c n) k ax off sz len
 |.cB n k ax off sz i=>.cB (s0 x c n) k ax off sz i
 |y=>y
def SC.aZ (x c:Nat):SC->SC
 |.fn f ca=>.fn f (ca.map (SC.oC x c))
 |.ptr n k sz off=>.ptr (s0 x c n) k sz off
 |.sl n sz lo len=>.sl (s0 x c n) sz lo len
 |.bt n k ax off sz len=>.bt (s0 x c n) k ax off sz len
 |.cB n k ax off sz i=>.cB (s0 x c n) k ax off sz i
 |.v t y=>.v t y
 |.nil ts=>.nil ts
 |.cf ts y off=>.cf ts y off
 |.bj=>.bj
theorem SC.ajJ (x c:Nat) (y:SC):(y.oC x c).er=y.er.oC x c:=by
 cases y<;>simp[SC.oC,SC.er,ah.oC,Ed]
theorem SC.wz (x c:Nat) (y:SC):(y.aZ x c).er=y.er.aZ x c:=by
 cases y with
 |fn f ca=>
  simp only[SC.aZ,SC.er,ah.aZ,SC.Cf,List.map_map]
  congr 1
  exact List.map_congr_left fun y _=>SC.ajJ x c y
 |ptr n k sz off=>simp only[SC.aZ,SC.er,ah.aZ,ah.oC,Ed]
 |sl n sz lo len=>simp only[SC.aZ,SC.er,ah.aZ,ah.oC,Ed]
 |bt n k ax off sz len=>simp only[SC.aZ,SC.er,ah.aZ,ah.oC,Ed]
 |cB n k ax off sz i=>simp only[SC.aZ,SC.er,ah.aZ,ah.oC,Ed]
 |_=>rfl
theorem PY (x c:Nat) (cs:List SC):(cs.map (SC.aZ x c)).map SC.er=(cs.map SC.er).map (ah.aZ x c):=by
 simp only[List.map_map]
 exact List.map_congr_left fun y _=>SC.wz x c y
def SV.aZ (x c:Nat):SV->SV
 |.one y=>.one (y.aZ x c)
 |.agg ys=>.agg (ys.map (SC.aZ x c))
 |.bk ys=>.bk (ys.map fun y=>(y.1,y.2.map (SC.aZ x c)))
theorem SV.wz (x c:Nat) (v:SV):(v.aZ x c).er=v.er.aZ x c:=by
 cases v with
 |one y=>simp only[SV.aZ,SV.er,aj.aZ,SC.wz]
 |agg cs=>simp only[SV.aZ,SV.er,aj.aZ,PY]
 |bk xs=>
  simp only[SV.aZ,SV.er,aj.aZ,List.map_map]
  congr 1
  exact List.map_congr_left fun y _=>by simp only[Function.comp];rw[PY]
def SB.aZ (x c:Nat):SB->SB
 |.box cs=>.box (cs.map (SC.aZ x c))
 |.row gr m ts xs=>.row gr m ts xs
theorem SB.wz (x c:Nat) (b:SB):(b.aZ x c).er=b.er.aZ x c:=by
 cases b with
 |box cs=>simp only[SB.aZ,SB.er,aq.aZ,PY]
 |row gr m ts xs=>rfl
def af.aZ (σ:af) (x c:Nat):Option af:=
  match Nat.beq x c with
  |true=>some σ
  |false=>match Nat.ble aI x with
   |true=>some σ
   |false=>match σ.used c with
    |true=>none
    |false=>some
     {env:=fun s=>(σ.env s).aZ x c
      h:=fun n=>match Nat.beq n c with
        |true=>(σ.h x).map (SB.aZ x c)
        |false=>match Nat.beq n x with
         |true=>none
         |false=>(σ.h n).map (SB.aZ x c)
      used:=fun n=>match Nat.beq n c with
        |true=>σ.used x
        |false=>match Nat.beq n x with
         |true=>false
         |false=>σ.used n}
theorem wj {m n:Nat} (h:Nat.beq m n=false):m≠n:=fun e=>by rw[e,Nat.beq_refl] at h;cases h
theorem af.wz {σ σ1:af} {x c:Nat} (h:σ.aZ x c=some σ1):σ.er.aZ x c=some σ1.er:=by
 unfold af.aZ at h
 split at h
 ·rename_i e
  injection h with h
  subst h
  simp[St.aZ,Nat.eq_of_beq_eq_true e]
 ·rename_i e
  split at h
  ·rename_i hx
   injection h with h
   subst h
   simp only[St.aZ,if_neg (wj e),hx,if_true]
  rename_i hx
  split at h
  ·cases h
  ·rename_i hu
   injection h with h
   subst h
   have mE:σ.er.used c=false:=hu
   simp only[St.aZ,if_neg (wj e),hx,mE,Bool.false_eq_true,if_false]
   congr 1
   have mm:∀o:Option SB,(o.map (SB.aZ x c)).map SB.er=(o.map SB.er).map (·.aZ x c):=by
    intro o;cases o with
    |none=>rfl
    |some b=>simp only[Option.map_some,SB.wz]
   have e1:(fun s=>(σ.er.env s).aZ x c)=pN (fun s=>(σ.env s).aZ x c):=by
    funext s;exact(SV.wz x c (σ.env s)).symm
   have e2:(fun n=>if n=c then(σ.er.h x).map (·.aZ x c) else if n=x then none else(σ.er.h n).map (·.aZ x c))=cT (fun n=>match Nat.beq n c with
     |true=>(σ.h x).map (SB.aZ x c)
     |false=>match Nat.beq n x with
      |true=>none
      |false=>(σ.h n).map (SB.aZ x c)):=by
    funext n
    simp only[cT]
    cases hc:Nat.beq n c with
    |true=>rw[if_pos (Nat.eq_of_beq_eq_true hc)];exact(mm (σ.h x)).symm
    |false=>
     rw[if_neg (wj hc)]
     cases hx:Nat.beq n x with
     |true=>rw[if_pos (Nat.eq_of_beq_eq_true hx)];rfl
     |false=>rw[if_neg (wj hx)];exact(mm (σ.h n)).symm
   have e3:(fun n=>if n=c then σ.er.used x else if n=x then false else σ.er.used n)=(fun n=>match Nat.beq n c with
     |true=>σ.used x
     |false=>match Nat.beq n x with
      |true=>false
      |false=>σ.used n):=by
    funext n
    cases hc:Nat.beq n c with
    |true=>rw[if_pos (Nat.eq_of_beq_eq_true hc)];rfl
    |false=>
     rw[if_neg (wj hc)]
     cases hx:Nat.beq n x with
     |true=>rw[if_pos (Nat.eq_of_beq_eq_true hx)]
     |false=>rw[if_neg (wj hx)];rfl
   rw[e1,e2,e3]
   rfl
abbrev Cn:=List (Bool×Nat×Nat×Nat×Mode×List Ty)
def Cn.er (cn:Cn):List (Bool×Nat×Nat×Nat×Mode):=cn.map fun x=>(x.1,x.2.1,x.2.2.1,x.2.2.2.1,x.2.2.2.2.1)
def af.jO (σ:af) (c:Nat):Mode->af
 |.aF=>match σ.h c with
  |some (.row gr .aa ts xs)=>σ.dv c (.row gr .aF ts xs)
  |_=>σ
 |_=>σ
theorem af.abC (σ:af) (c:Nat) (m:Mode):(σ.jO c m).er=σ.er.jO c m:=by
 cases m with
 |live=>rfl
 |aa=>rfl
 |aF=>
  simp only[af.jO,St.jO]
  have hh:σ.er.h c=(σ.h c).map SB.er:=rfl
  rw[hh]
  cases σ.h c with
  |none=>rfl
  |some b=>cases b with
   |box cs=>rfl
   |row gr m ts xs=>cases m with
    |aa=>simp only[Option.map_some,SB.er,af.pO]
    |live=>rfl
    |aF=>rfl
def wD (σ:af):Bool×Nat×Nat×Nat×Mode×List Ty->Option af
 |(true,n,j,c,m,us)=>match σ.h n with
  |some (.box cs)=>match cs[j]? with
   |some (.sl a _ _ _)=>(σ.aZ a c).map fun σ1=>σ1.jO c m
   |some (.nil ts)=>match ts with
    |[]=>some σ
    |t::ts=>match σ.ins c (.row true m (t::ts) []) with
     |some σ1=>some (σ1.dv n (.box (cs.set j (.sl c (t::ts).length 0 0))))
     |none=>none
   |_=>some σ
  |_=>some σ
 |(false,n,j,c,m,us)=>match σ.env n with
  |.one (.sl a _ _ _)=>(σ.aZ a c).map fun σ1=>σ1.jO c m
  |.one (.nil ts)=>match ts with
   |[]=>some σ
   |t::ts=>match σ.ins c (.row true m (t::ts) []) with
    |some σ1=>some (σ1.put (some n) (.one (.sl c (t::ts).length 0 0)))
    |none=>none
  |_=>some σ
theorem ZB {σ σ1:af} {a c:Nat} {m:Mode} (h:(σ.aZ a c).map (fun σ1=>σ1.jO c m)=some σ1):(σ.er.aZ a c).map (fun σ1=>σ1.jO c m)=some σ1.er:=by
 rw[Option.map_eq_some_iff] at h
 obtain⟨σ2,e,rfl⟩:=h
 rw[af.wz e,Option.map_some,af.abC]
theorem ake {σ σ1:af} {x:Bool×Nat×Nat×Nat×Mode×List Ty} (h:wD σ x=some σ1):σ.er.canon (x.1,x.2.1,x.2.2.1,x.2.2.2.1,x.2.2.2.2.1)=some σ1.er:=by
 obtain⟨b,n,j,c,m,us⟩:=x
 cases b with
 |true=>
  simp only[wD] at h
  simp only[St.canon]
  have hh:σ.er.h n=(σ.h n).map SB.er:=rfl
  rw[hh]
  split at h
  ·rename_i cs hn
   simp only[hn,Option.map_some,SB.er,List.getElem?_map]
   split at h
   ·rename_i a _ _ _ hj
    simp only[hj,Option.map_some,SC.er]
    exact ZB h
   ·rename_i ts hj
    simp only[hj,Option.map_some,SC.er]
    split at h
    ·injection h with h;subst h;rfl
    ·rename_i t ts
     split at h
     ·rename_i σ2 e
      injection h with h
      subst h
      have i:=af.sb e
      rw[show(SB.row true m (t::ts) []).er=aq.row true m (t::ts).length [] from rfl] at i
      simp only[List.length_cons,Nat.zero_lt_succ,if_true] at i⊢
      rw[i]
      simp only[af.pO,SB.er,List.map_set,SC.er,List.length_cons]
     ·cases h
   ·rename_i hs hz
    injection h with h
    subst h
    cases hj:cs[j]? with
    |none=>rfl
    |some y=>cases y<;>first|rfl|(exfalso;exact hs _ _ _ _ hj)|(exfalso;exact hz _ hj)
  ·rename_i hb
   injection h with h
   subst h
   cases hn:σ.h n with
   |none=>rfl
   |some b=>cases b with
    |box cs=>exact absurd hn (hb cs)
    |row gr m ts xs=>rfl
 |false=>
  simp only[wD] at h
  simp only[St.canon]
  have hh:σ.er.env n=(σ.env n).er:=rfl
  rw[hh]
  split at h
  ·rename_i a _ _ _ hn
   simp only[hn,SV.er,SC.er]
   exact ZB h
  ·rename_i ts hn
   simp only[hn,SV.er,SC.er]
   split at h
   ·injection h with h;subst h;rfl
   ·rename_i t ts
    split at h
    ·rename_i σ2 e
     injection h with h
     subst h
     have i:=af.sb e
     rw[show(SB.row true m (t::ts) []).er=aq.row true m (t::ts).length [] from rfl] at i
     simp only[List.length_cons,Nat.zero_lt_succ,if_true] at i⊢
     rw[i]
     simp only[af.dq,SV.er,SC.er,List.length_cons]
    ·cases h
  ·rename_i hs hz
   injection h with h
   subst h
   cases hn:σ.env n with
   |one y=>cases y<;>first|rfl|(exfalso;exact hs _ _ _ _ hn)|(exfalso;exact hz _ hn)
   |_=>rfl
def Bh (σ:af):Cn->Option af
 |[]=>some σ
 |x::l=>match wD σ x with
  |some σ1=>Bh σ1 l
  |none=>none
theorem Y0:∀{cn:Cn} {σ σ1:af},Bh σ cn=some σ1->σ.er.rY cn.er=some σ1.er
 |[],σ,σ1,h=>by simp only[Bh] at h;injection h with h;subst h;rfl
 |x::l,σ,σ1,h=>by
  simp only[Bh] at h
  split at h
  ·rename_i σ2 e
   have i:=ake e
   have j:=Y0 h
   simp only[Cn.er] at j
   simp only[Cn.er,List.map_cons,St.rY,i,j]
  ·cases h
section
variable {ρ:Type}
def yp (n:Nat) (k:Nat->Option ρ):List Nat->Option ρ
 |[]=>k n
 |c::l=>match Nat.beq n c with
  |true=>k c
  |false=>yp n k l
theorem X0 (n:Nat) (k:Nat->Option ρ):∀l,yp n k l=k n
 |[]=>rfl
 |c::l=>by
  simp only[yp]
  split
  ·rename_i e;rw[Nat.eq_of_beq_eq_true e]
  ·exact X0 n k l
def L8 (kh:List Nat) (c:SC) (k:SC->Option ρ):Option ρ:=
 match c with
 |.v t x=>k (.v t x)
 |.nil ts=>k (.nil ts)
 |.ptr n kk sz off=>yp n (fun n=>k (.ptr n kk sz off)) kh
 |.cf ts x off=>k (.cf ts x off)
 |.sl n sz lo len=>yp n (fun n=>k (.sl n sz lo len)) kh
 |.bt n a b c d e=>yp n (fun n=>k (.bt n a b c d e)) kh
 |.cB n a b c d e=>yp n (fun n=>k (.cB n a b c d e)) kh
 |.fn f ca=>k (.fn f ca)
 |.bj=>k .bj
theorem Vz (kh:List Nat) (c:SC) (k:SC->Option ρ):L8 kh c k=k c:=by
 cases c<;>first|rfl|exact X0 _ _ _
def Cw (kh:List Nat):List SC->(List SC->Option ρ)->Option ρ
 |[],k=>k []
 |c::cs,k=>L8 kh c fun c=>Cw kh cs fun cs=>k (c::cs)
theorem L9 (kh:List Nat):∀(cs:List SC) (k:List SC->Option ρ),Cw kh cs k=k cs
 |[],k=>rfl
 |c::cs,k=>by simp only[Cw,Vz,L9 kh cs]
def tF (kh:List Nat) (env:Nat->SV):List Nat->(List (Nat×SV)->Option ρ)->Option ρ
 |[],k=>k []
 |s::ss,k=>match env s with
  |.one .bj=>tF kh env ss k
  |.one c=>L8 kh c fun c=>tF kh env ss fun l=>k ((s,.one c)::l)
  |.agg cs=>Cw kh cs fun cs=>tF kh env ss fun l=>k ((s,.agg cs)::l)
  |.bk xs=>tF kh env ss fun l=>k ((s,.bk xs)::l)
def tG (kh:List Nat) (h:Nat->Option SB):List Nat->(List (Nat×Option SB)->Option ρ)->Option ρ
 |[],k=>k []
 |n::ns,k=>match h n with
  |none=>tG kh h ns k
  |some (.box cs)=>Cw kh cs fun cs=>tG kh h ns fun l=>k ((n,some (.box cs))::l)
  |some (.row gr m ts xs)=>tG kh h ns fun l=>k ((n,some (.row gr m ts xs))::l)
def xz (u:Nat->Bool):List Nat->(List Nat->Option ρ)->Option ρ
 |[],k=>k []
 |n::ns,k=>match u n with
  |true=>xz u ns fun l=>k (n::l)
  |false=>xz u ns k
def uR:List Nat->Nat->Bool
 |[],n=>Nat.ble aI n
 |m::l,n=>match Nat.beq n m with
  |true=>true
  |false=>uR l n
def af.zH (ke kh:List Nat) (σ:af) (k:af->Option ρ):Option ρ:=
 tF kh σ.env ke fun le=>tG kh σ.h kh fun lh=>xz σ.used kh fun lu=>k ⟨lH le,jX lh,uR lu⟩
structure ir (ke kh:List Nat) (σ:af):Prop where
 e:∀s,s∉ke->σ.env s=.one .bj
 h:∀n,n∉kh->σ.h n=none
 u:∀n,n∉kh->σ.used n=Nat.ble aI n
 p:∀n,σ.used n=false->Nat.ble aI n=false
theorem VA (kh:List Nat) (env:Nat->SV):∀(ss:List Nat) (k:List (Nat×SV)->Option ρ),∃l:List (Nat×SV),tF kh env ss k=k l/\∀s,lH l s=if s∈ss then env s else .one .bj
 |[],k=>⟨[],rfl,fun s=>by simp[lH]⟩
 |a::ss,k=>by
  have cP:∀v:SV,env a=v->(∀k':List (Nat×SV)->Option ρ,∃l,tF kh env ss k'=k' l/\∀s,lH l s=if s∈ss then env s else .one .bj)->
    ∃l:List (Nat×SV),tF kh env ss (fun l=>k ((a,v)::l))=k l/\∀s,lH l s=if s∈a::ss then env s else .one .bj:=by
   intro v hv ih
   obtain⟨l,h1,h2⟩:=ih fun l=>k ((a,v)::l)
   refine⟨(a,v)::l,h1,fun s=>?_⟩
   simp only[lH,jp]
   split
   ·rename_i e
    subst e
    rw[if_pos (by simp)]
    exact hv.symm
   ·rename_i aC
    rw[h2 s]
    by_cases hs:s∈ss
    ·rw[if_pos hs,if_pos (by simp[hs])]
    ·rw[if_neg hs,if_neg (by simp[hs,aC])]
  have ih:=fun k':List (Nat×SV)->Option ρ=>VA kh env ss k'
  simp only[tF]
  split
  ·rename_i hv
   obtain⟨l,h1,h2⟩:=ih k
   refine⟨l,h1,fun s=>?_⟩
   rw[h2 s]
   by_cases hs:s∈ss
   ·rw[if_pos hs,if_pos (by simp[hs])]
   ·rw[if_neg hs]
    by_cases vJ:s=a
    ·subst vJ;rw[if_pos (by simp),hv]
    ·rw[if_neg (by simp[hs,vJ])]
  ·rename_i c hc hv
   rw[Vz]
   exact cP _ hv ih
  ·rename_i cs hv
   rw[L9]
   exact cP _ hv ih
  ·rename_i xs hv
   exact cP _ hv ih
theorem VB (kh:List Nat) (h:Nat->Option SB):∀(ns:List Nat) (k:List (Nat×Option SB)->Option ρ),∃l:List (Nat×Option SB),tG kh h ns k=k l/\∀n,jX l n=if n∈ns then h n else none
 |[],k=>⟨[],rfl,fun s=>by simp[jX]⟩
 |a::ns,k=>by
  have cP:∀v:Option SB,h a=v->(∀k':List (Nat×Option SB)->Option ρ,∃l,tG kh h ns k'=k' l/\∀s,jX l s=if s∈ns then h s else none)->
    ∃l:List (Nat×Option SB),tG kh h ns (fun l=>k ((a,v)::l))=k l/\∀s,jX l s=if s∈a::ns then h s else none:=by
   intro v hv ih
   obtain⟨l,h1,h2⟩:=ih fun l=>k ((a,v)::l)
   refine⟨(a,v)::l,h1,fun s=>?_⟩
   simp only[jX,jp]
   split
   ·rename_i e
    subst e
    rw[if_pos (by simp)]
    exact hv.symm
   ·rename_i aC
    rw[h2 s]
    by_cases hs:s∈ns
    ·rw[if_pos hs,if_pos (by simp[hs])]
    ·rw[if_neg hs,if_neg (by simp[hs,aC])]
  have ih:=fun k':List (Nat×Option SB)->Option ρ=>VB kh h ns k'
  simp only[tG]
  split
  ·rename_i hv
   obtain⟨l,h1,h2⟩:=ih k
   refine⟨l,h1,fun s=>?_⟩
   rw[h2 s]
   by_cases hs:s∈ns
   ·rw[if_pos hs,if_pos (by simp[hs])]
   ·rw[if_neg hs]
    by_cases vJ:s=a
    ·subst vJ;rw[if_pos (by simp),hv]
    ·rw[if_neg (by simp[hs,vJ])]
  ·rename_i cs hv
   rw[L9]
   exact cP _ hv ih
  ·rename_i gr m ts xs hv
   exact cP _ hv ih
theorem Ma (u:Nat->Bool) (hp:∀n,u n=false->Nat.ble aI n=false):∀(ns:List Nat) (k:List Nat->Option ρ),∃l:List Nat,xz u ns k=k l/\∀n,uR l n=if n∈ns then u n else Nat.ble aI n
 |[],k=>⟨[],rfl,fun s=>by simp[uR]⟩
 |a::ns,k=>by
  simp only[xz]
  split
  ·rename_i hv
   obtain⟨l,h1,h2⟩:=Ma u hp ns fun l=>k (a::l)
   refine⟨a::l,h1,fun s=>?_⟩
   simp only[uR]
   split
   ·rename_i e
    have:=Nat.eq_of_beq_eq_true e
    subst this
    rw[if_pos (by simp)]
    exact hv.symm
   ·rename_i e
    have aC:=wj e
    rw[h2 s]
    by_cases hs:s∈ns
    ·rw[if_pos hs,if_pos (by simp[hs])]
    ·rw[if_neg hs,if_neg (by simp[hs,aC])]
  ·rename_i hv
   obtain⟨l,h1,h2⟩:=Ma u hp ns k
   refine⟨l,h1,fun s=>?_⟩
   rw[h2 s]
   by_cases hs:s∈ns
   ·rw[if_pos hs,if_pos (by simp[hs])]
   ·rw[if_neg hs]
    by_cases vJ:s=a
    ·subst vJ;rw[if_pos (by simp),hv,hp _ hv]
    ·rw[if_neg (by simp[hs,vJ])]
theorem GZ {ke kh:List Nat} {σ:af} (W:ir ke kh σ) (k:af->Option ρ):σ.zH ke kh k=k σ:=by
 unfold af.zH
 obtain⟨le,e1,e2⟩:=VA kh σ.env ke fun le=>tG kh σ.h kh fun lh=>xz σ.used kh fun lu=>k ⟨lH le,jX lh,uR lu⟩
 rw[e1]
 obtain⟨lh,h1,h2⟩:=VB kh σ.h kh fun lh=>xz σ.used kh fun lu=>k ⟨lH le,jX lh,uR lu⟩
 rw[h1]
 obtain⟨lu,u1,u2⟩:=Ma σ.used W.p kh fun lu=>k ⟨lH le,jX lh,uR lu⟩
 rw[u1]
 have a1:lH le=σ.env:=by
  funext s
  rw[e2 s]
  split
  ·rfl
  ·rename_i hs;exact(W.e s hs).symm
 have a2:jX lh=σ.h:=by
  funext s
  rw[h2 s]
  split
  ·rfl
  ·rename_i hs;exact(W.h s hs).symm
 have a3:uR lu=σ.used:=by
  funext s
  rw[u2 s]
  split
  ·rfl
  ·rename_i hs;exact(W.u s hs).symm
 rw[a1,a2,a3]
theorem ir.ig (ke kh:List Nat) (σ:af):ir ke kh (σ.ig ke kh):=
 ⟨fun s hs=>SK _ _ _ s hs,fun n hn=>SL _ _ _ n hn,fun n hn=>by show(Nat.ble aI n||rC _ _ n)=_;rw[SM _ _ n hn,Bool.or_false],
  fun n hn=>by have bn:(Nat.ble aI n||rC _ _ n)=false:=hn;simp only[Bool.or_eq_false_iff] at bn;exact bn.1⟩
theorem ir.aZ {ke kh:List Nat} {σ σ1:af} {a c:Nat} (W:ir ke kh σ) (hc:c∈kh) (h:σ.aZ a c=some σ1):ir ke kh σ1:=by
 unfold af.aZ at h
 split at h
 ·injection h with h;subst h;exact W
 ·split at h
  ·injection h with h;subst h;exact W
  ·rename_i vI
   split at h
   ·cases h
   ·rename_i HA
    injection h with h
    subst h
    refine⟨fun s hs=>?_,fun n hn=>?_,fun n hn=>?_,fun n hn=>?_⟩
    ·show(σ.env s).aZ a c=_
     rw[W.e s hs];rfl
    ·simp only
     split
     ·rename_i e;exact absurd (by rw[Nat.eq_of_beq_eq_true e];exact hc) hn
     ·split
      ·rfl
      ·rw[W.h n hn];rfl
    ·simp only
     split
     ·rename_i e;exact absurd (by rw[Nat.eq_of_beq_eq_true e];exact hc) hn
     ·split
      ·rename_i e;rw[Nat.eq_of_beq_eq_true e,vI]
      ·exact W.u n hn
    ·simp only at hn
     split at hn
     ·rename_i e;rw[Nat.eq_of_beq_eq_true e];exact W.p c HA
     ·split at hn
      ·rename_i e;rw[Nat.eq_of_beq_eq_true e,vI]
      ·exact W.p n hn
theorem ir.ins {ke kh:List Nat} {σ σ1:af} {c:Nat} {b:SB} (W:ir ke kh σ) (hc:c∈kh) (h:σ.ins c b=some σ1):ir ke kh σ1:=by
 unfold af.ins at h
 split at h
 ·cases h
 ·rename_i HA
  injection h with h
  subst h
  refine⟨W.e,fun n hn=>?_,fun n hn=>?_,fun n hn=>?_⟩
  ·show av σ.h c _ n=_
   rw[cd _ _ _ _ (fun e=>hn (by rw[e];exact hc))];exact W.h n hn
  ·show av σ.used c _ n=_
   rw[cd _ _ _ _ (fun e=>hn (by rw[e];exact hc))];exact W.u n hn
  ·have bn:av σ.used c true n=false:=hn
   by_cases e:n=c
   ·subst e;rw[bD] at bn;cases bn
   ·rw[cd _ _ _ _ e] at bn;exact W.p n bn
theorem ir.jO {ke kh:List Nat} {σ:af} (W:ir ke kh σ) (c:Nat) (m:Mode):ir ke kh (σ.jO c m):=by
 cases m with
 |live=>exact W
 |aa=>exact W
 |aF=>
  simp only[af.jO]
  split
  ·rename_i gr ts xs hn
   exact⟨W.e,fun n hk=>by
    show av σ.h c _ n=none
    have pZ:n≠c:=fun e=>by subst e;rw[W.h n hk] at hn;cases hn
    rw[cd _ _ _ _ pZ];exact W.h n hk,W.u,W.p⟩
  ·exact W
theorem ir.DQ {ke kh:List Nat} {σ σ1:af} {a c:Nat} {m:Mode} (W:ir ke kh σ) (hc:c∈kh) (h:(σ.aZ a c).map (fun σ1=>σ1.jO c m)=some σ1):ir ke kh σ1:=by
 rw[Option.map_eq_some_iff] at h
 obtain⟨σ2,e,rfl⟩:=h
 exact(W.aZ hc e).jO c m
theorem ir.canon {ke kh:List Nat} {σ σ1:af} {x:Bool×Nat×Nat×Nat×Mode×List Ty} (W:ir ke kh σ) (hc:x.2.2.2.1∈kh) (h:wD σ x=some σ1):ir ke kh σ1:=by
 obtain⟨b,n,j,c,m,us⟩:=x
 simp only at hc
 have fP:some σ=some σ1->ir ke kh σ1:=fun h=>by injection h with h;subst h;exact W
 cases b with
 |true=>
  simp only[wD] at h
  split at h
  ·rename_i cs hn
   split at h
   ·exact W.DQ hc h
   ·split at h
    ·exact fP h
    ·split at h
     ·rename_i σ2 e
      injection h with h
      subst h
      have W2:=W.ins hc e
      have MW:n∈kh:=by
       rcases Decidable.em (n∈kh) with h|h
       ·exact h
       ·rw[W.h n h] at hn;cases hn
      exact⟨W2.e,fun q hq=>by show av σ2.h n _ q=_;rw[cd _ _ _ _ (fun e=>hq (by rw[e];exact MW))];exact W2.h q hq,W2.u,W2.p⟩
     ·cases h
   ·exact fP h
  ·exact fP h
 |false=>
  simp only[wD] at h
  split at h
  ·exact W.DQ hc h
  ·rename_i ts hn
   split at h
   ·exact fP h
   ·split at h
    ·rename_i σ2 e
     injection h with h
     subst h
     have W2:=W.ins hc e
     have MW:n∈ke:=by
      rcases Decidable.em (n∈ke) with h|h
      ·exact h
      ·rw[W.e n h] at hn;cases hn
     exact⟨fun q hq=>by show av σ2.env n _ q=_;rw[cd _ _ _ _ (fun e=>hq (by rw[e];exact MW))];exact W2.e q hq,W2.h,W2.u,W2.p⟩
    ·cases h
  ·exact fP h
def IW (ke kh:List Nat):Cn->af->(af->Option ρ)->Option ρ
 |[],σ,k=>k σ
 |x::l,σ,k=>match wD σ x with
  |some σ1=>match List.elem x.2.2.2.1 kh with
   |true=>σ1.zH ke kh fun σ2=>IW ke kh l σ2 k
   |false=>none
  |none=>none
theorem YZ {ke kh:List Nat}:∀{cn:Cn} {σ:af} {k:af->Option ρ} {r:ρ},ir ke kh σ->IW ke kh cn σ k=some r->∃σ1,Bh σ cn=some σ1/\k σ1=some r
 |[],σ,k,r,W,h=>⟨σ,rfl,h⟩
 |x::l,σ,k,r,W,h=>by
  simp only[IW] at h
  split at h
  ·rename_i σ1 e
   split at h
   ·rename_i hm
    have W1:=W.canon (by simpa using hm) e
    rw[GZ W1] at h
    obtain⟨σ2,h1,h2⟩:=YZ W1 h
    exact⟨σ2,by simp only[Bh,e,h1],h2⟩
   ·cases h
  ·cases h
def Bl (sh:ju) (kh:List Nat) (cn:Cn) (σ:af) (k:sh.L.D->Option ρ):Option ρ:=
 (σ.ig sh.ke kh).zH sh.ke kh fun σ1=>(σ1.ig sh.ke kh).zH sh.ke kh fun σ2=>IW sh.ke kh cn σ2 fun gF=>(gF.ig sh.ke kh).zH sh.ke kh fun σ4=>sh.flat kh σ4 k
theorem I0 {sh:ju} {kh:List Nat} {cn:Cn} {σ:af} {k:sh.L.D->Option ρ} {r:ρ} (h:Bl sh kh cn σ k=some r):
  ∃x,σ.er.head sh.ke kh cn.er=some (sh.un x).er/\k x=some r:=by
 unfold Bl at h
 rw[GZ (ir.ig _ _ _),GZ (ir.ig _ _ _)] at h
 obtain⟨σ1,e,h⟩:=YZ (ir.ig _ _ _) h
 rw[GZ (ir.ig _ _ _)] at h
 obtain⟨x,h1,h2⟩:=ju.oR h (fun s hs=>SK _ _ _ s hs) (fun n hn=>⟨SL _ _ _ n hn,by show(Nat.ble aI n||rC _ _ n)=_;rw[SM _ _ n hn,Bool.or_false]⟩)
 have i:=Y0 e
 rw[af.P0,af.P0] at i
 exact⟨x,by simp only[St.head,i,<-h1,af.P0],h2⟩
end
inductive bw where
 |skip
 |ab (qR:Bool) (ops:List eX)
 |nF (ps:List (Nat×Nat)) (ops:List eX)
 |seq (a b:bw)
 |cond (c:cD) (a b:bw)
 |block (id:Nat) (c:bw)
 |join (sh:ju) (kh:List Nat) (cn:Cn) (c:bw)
 |loop (id:Nat) (sh:ju) (kh:List Nat) (cn:Cn) (c:bw)
 |exit (id:Nat)
 |ret
def bw.er:bw->lz
 |.skip=>.skip
 |.ab d ops=>.ab d (ops.map eX.er)
 |.nF ps ops=>.nF ps (ops.map eX.er)
 |.seq a b=>.seq a.er b.er
 |.cond c a b=>.cond c.er a.er b.er
 |.block id c=>.block id c.er
 |.join sh kh cn c=>.join sh.ke kh cn.er c.er
 |.loop id sh kh cn c=>.loop id sh.ke kh cn.er c.er
 |.exit id=>.exit id
 |.ret=>.ret
def af.N9 (σ:af) (c:cD) (b:Bool):af:=
 match c with
 |.t n=>σ.lit n b
 |.k _=>σ
def vV {X ρ:Type} (o:Option ρ):Option (X⊕ρ):=o.U fun r=>some (.inr r)
theorem An {X ρ:Type} {o:Option ρ} {s:X⊕ρ} (h:vV o=some s):∃r,o=some r/\s=.inr r:=by
 unfold vV at h
 rw[eY] at h
 obtain⟨r,h1,h2⟩:=h
 injection h2 with h2
 exact⟨r,h1,h2.symm⟩
def lk (N:Nat) (T:List aG):bw->{ρ:Type}->af->(af->Option ρ)->(Nat->af->Option ρ)->(af->Option ρ)->Option ρ
 |.skip,_,σ,k,_,_=>k σ
 |.ab _ ops,_,σ,k,_,_=>qB T ops σ k
 |.nF ps ops,_,σ,k,_,_=>qC T ps ops [] σ k
 |.seq a b,_,σ,k,ex,kr=>lk N T a σ (fun σ1=>lk N T b σ1 k ex kr) ex kr
 |.cond c a b,_,σ,k,ex,kr=>match σ.ev c with
  |.one (.v .bool t)=>aw t (lk N T a (σ.N9 c true) k ex kr) (lk N T b (σ.N9 c false) k ex kr)
  |_=>none
 |.block id c,_,σ,k,ex,kr=>lk N T c σ k (fun i σ1=>match Nat.beq i id with|true=>k σ1|false=>ex i σ1) kr
 |.join sh kh cn c,ρ,σ,k,ex,kr=>
  bK (lk N T c (ρ:=sh.L.D⊕ρ) σ (fun σ1=>Bl sh kh cn σ1 fun x=>some (.inl x)) (fun i σ1=>vV (ex i σ1)) (fun σ1=>vV (kr σ1))) fun x=>k (sh.un x)
 |.loop id sh kh cn c,ρ,σ,k,ex,kr=>
  Bl sh kh cn σ fun x0=>bf N (fun x=>lk N T c (ρ:=sh.L.D⊕ρ) (sh.un x) (fun σ1=>Bl sh kh cn σ1 fun x'=>some (.inl x')) (fun i σ1=>vV (ex i σ1)) (fun σ1=>vV (kr σ1))) x0
 |.exit id,_,σ,_,ex,_=>ex id σ
 |.ret,_,σ,_,_,kr=>kr σ
def TM {ρ:Type} (k:af->Option ρ) (ex:Nat->af->Option ρ) (kr:af->Option ρ) (r:ρ):u9->Prop
 |.fC τ=>∃d7:af,τ=d7.er/\k d7=some r
 |.ext i τ=>∃d7:af,τ=d7.er/\ex i d7=some r
 |.ret τ=>∃d7:af,τ=d7.er/\kr d7=some r
theorem Xx {σ:af} {c:cD} {b:Bool} (h:σ.ev c=.one (.v .bool b)):(σ.N9 c b).er=σ.er:=by
 cases c with
 |t n=>exact af.Cd h
 |k v=>rfl
theorem rB {T:List aG}:∀(m:bw) {ρ:Type} {σ:af} {k:af->Option ρ} {ex:Nat->af->Option ρ} {kr:af->Option ρ} {r:ρ},lk aA T m σ k ex kr=some r->
    ∃o:u9,dK (dm T) m.er σ.er=some o/\TM k ex kr r o
  |.skip,ρ,σ,k,ex,kr,r,h=>⟨.fC σ.er,rfl,σ,rfl,h⟩
  |.ab d ops,ρ,σ,k,ex,kr,r,h=>by
   obtain⟨σ1,h1,h2⟩:=Sp (h:qB T ops σ k=some r)
   exact⟨.fC σ1.er,by simp only[bw.er,dK,h1],σ1,rfl,h2⟩
  |.nF ps ops,ρ,σ,k,ex,kr,r,h=>by
   obtain⟨σ1,fs,h1,h2,h3⟩:=So (h:qC T ps ops [] σ k=some r)
   exact⟨.fC σ1.er,by simp only[bw.er,dK,h1,h2,cond_true],σ1,rfl,h3⟩
  |.seq a b,ρ,σ,k,ex,kr,r,h=>by
   obtain⟨o,h1,h2⟩:=rB a (h:lk aA T a σ (fun σ1=>lk aA T b σ1 k ex kr) ex kr=some r)
   cases o with
   |fC τ=>
    obtain⟨d7,rfl,h2⟩:=h2
    obtain⟨o2,h3,h4⟩:=rB b h2
    exact⟨o2,by simp only[bw.er,dK,h1,h3],h4⟩
   |ext i τ=>exact⟨.ext i τ,by simp only[bw.er,dK,h1],h2⟩
   |ret τ=>exact⟨.ret τ,by simp only[bw.er,dK,h1],h2⟩
  |.cond c a b,ρ,σ,k,ex,kr,r,h=>by
   simp only[lk] at h
   split at h
   · rename_i t hc
     have cI:σ.er.ev c.er=.one (.c (.bool t)):=by rw[af.dk,hc];rfl
     cases ht:(t:Bool) with
     |true=>
      rw[ht] at h
      simp only[Gu] at h
      obtain⟨o,h1,h2⟩:=rB a h
      rw[Xx (by rw[hc,ht])] at h1
      exact⟨o,by simp only[bw.er,dK,cI,ht,if_true,h1],h2⟩
     |false=>
      rw[ht] at h
      simp only[xl] at h
      obtain⟨o,h1,h2⟩:=rB b h
      rw[Xx (by rw[hc,ht])] at h1
      exact⟨o,by simp only[bw.er,dK,cI,ht,Bool.false_eq_true,if_false,h1],h2⟩
   · cases h
  |.block id c,ρ,σ,k,ex,kr,r,h=>by
   obtain⟨o,h1,h2⟩:=rB c (h:lk aA T c σ k (fun i σ1=>match Nat.beq i id with|true=>k σ1|false=>ex i σ1) kr=some r)
   cases o with
   |fC τ=>exact⟨.fC τ,by simp only[bw.er,dK,h1],h2⟩
   |ret τ=>exact⟨.ret τ,by simp only[bw.er,dK,h1],h2⟩
   |ext i τ=>
    obtain⟨d7,rfl,h2⟩:=h2
    simp only at h2
    split at h2
    · rename_i e
      exact⟨.fC d7.er,by simp only[bw.er,dK,h1,if_pos (Nat.eq_of_beq_eq_true e)],d7,rfl,h2⟩
    · rename_i e
      exact⟨.ext i d7.er,by simp only[bw.er,dK,h1,if_neg (wj e)],d7,rfl,h2⟩
  |.join sh kh cn c,ρ,σ,k,ex,kr,r,h=>by
   simp only[lk,bK,Option.bind_eq_some_iff] at h
   obtain⟨s,hs,h⟩:=h
   obtain⟨o,h1,h2⟩:=rB c hs
   cases o with
   |fC τ=>
    obtain⟨d7,rfl,h2⟩:=h2
    obtain⟨x,h3,h4⟩:=I0 h2
    injection h4 with h4
    subst h4
    exact⟨.fC (sh.un x).er,by simp only[bw.er,dK,h1,h3],sh.un x,rfl,h⟩
   |ext i τ=>
    obtain⟨d7,rfl,h2⟩:=h2
    obtain⟨y,h3,rfl⟩:=An h2
    injection h with h
    subst h
    exact⟨.ext i d7.er,by simp only[bw.er,dK,h1],d7,rfl,h3⟩
   |ret τ=>
    obtain⟨d7,rfl,h2⟩:=h2
    obtain⟨y,h3,rfl⟩:=An h2
    injection h with h
    subst h
    exact⟨.ret d7.er,by simp only[bw.er,dK,h1],d7,rfl,h3⟩
  |.loop id sh kh cn c,ρ,σ,k,ex,kr,r,h=>by
   simp only[lk] at h
   obtain⟨x0,h0,h⟩:=I0 h
   simp only[bw.er,dK]
   have cP:∀(n:Nat) (x0:sh.L.D) (JD:St),JD.head sh.ke kh cn.er=some (sh.un x0).er->
       bf n (fun x=>lk aA T c (ρ:=sh.L.D⊕ρ) (sh.un x) (fun σ1=>Bl sh kh cn σ1 fun x'=>some (.inl x')) (fun i σ1=>vV (ex i σ1)) (fun σ1=>vV (kr σ1))) x0=some r->
       ∃o:u9,AD n (fun σ=>match σ.head sh.ke kh cn.er with|some σ1=>dK (dm T) c.er σ1|none=>none) JD=some o/\TM k ex kr r o:=by
    intro n
    induction n with
    |zero=>intro x0 JD h0 h;simp[bf] at h
    |succ n ih=>
     intro x0 JD h0 h
     simp only[bf] at h
     simp only[AD,h0]
     split at h
     · rename_i x' hb
       obtain⟨o,h1,h2⟩:=rB c hb
       cases o with
       |fC τ=>
        obtain⟨d7,rfl,h2⟩:=h2
        obtain⟨x2,h3,h4⟩:=I0 h2
        injection h4 with h4
        injection h4 with h4
        subst h4
        simp only[h1]
        exact ih x2 _ h3 h
       |ext i τ=>
        obtain⟨d7,rfl,h2⟩:=h2
        obtain⟨y,_,e⟩:=An h2
        cases e
       |ret τ=>
        obtain⟨d7,rfl,h2⟩:=h2
        obtain⟨y,_,e⟩:=An h2
        cases e
     · rename_i y hb
       injection h with h
       subst h
       obtain⟨o,h1,h2⟩:=rB c hb
       cases o with
       |fC τ=>
        obtain⟨d7,rfl,h2⟩:=h2
        obtain⟨x2,h3,h4⟩:=I0 h2
        injection h4 with h4
        cases h4
       |ext i τ=>
        obtain⟨d7,rfl,h2⟩:=h2
        obtain⟨y',h3,e⟩:=An h2
        injection e with e
        subst e
        exact⟨.ext i d7.er,by simp only[h1],d7,rfl,h3⟩
       |ret τ=>
        obtain⟨d7,rfl,h2⟩:=h2
        obtain⟨y',h3,e⟩:=An h2
        injection e with e
        subst e
        exact⟨.ret d7.er,by simp only[h1],d7,rfl,h3⟩
     · cases h
   exact cP aA x0 σ.er h0 h
  |.exit id,ρ,σ,k,ex,kr,r,h=>⟨.ext id σ.er,rfl,σ,rfl,h⟩
  |.ret,ρ,σ,k,ex,kr,r,h=>⟨.ret σ.er,rfl,σ,rfl,h⟩
end Go.Am
