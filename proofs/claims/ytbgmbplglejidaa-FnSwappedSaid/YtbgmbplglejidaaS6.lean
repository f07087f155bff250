/- S6: heads and code of the typed evaluator. No condition. -/
import Derived.Test.YtbgmbplglejidaaS5
set_option linter.unusedVariables false
set_option linter.unusedSimpArgs false
namespace Go.Am
def SC.fG (ok:Nat->Bool):SC->SC
 |.ptr n k sz off=>match ok n with|true=>.ptr n k sz off|false=>.bq
 |.sl n sz lo len=>match ok n with|true=>.sl n sz lo len|false=>.bq
 |.bE n k aE off sz len=>match ok n with|true=>.bE n k aE off sz len|false=>.bq
 |.c7 n k aE off sz i=>match ok n with|true=>.c7 n k aE off sz i|false=>.bq
 |x=>x
def SC.db (ok:Nat->Bool):SC->SC
 |.fn f cF=>.fn f (cF.map (SC.fG ok))
 |.v t x=>.v t x
 |.nil ts=>.nil ts
 |.ptr n k sz off=>SC.fG ok (.ptr n k sz off)
 |.cH ts x off=>.cH ts x off
 |.sl n sz lo len=>SC.fG ok (.sl n sz lo len)
 |.bE n k aE off sz len=>SC.fG ok (.bE n k aE off sz len)
 |.c7 n k aE off sz i=>SC.fG ok (.c7 n k aE off sz i)
 |.bq=>.bq
theorem SC.Ep (ok:Nat->Bool) (c:SC):(c.fG ok).er=c.er.fG ok:=by
 cases c with
 |ptr n k sz off=>simp only[SC.fG,SC.er,aj.fG];cases ok n<;>rfl
 |sl n sz lo len=>simp only[SC.fG,SC.er,aj.fG];cases ok n<;>rfl
 |bE n k aE off sz len=>simp only[SC.fG,SC.er,aj.fG];cases ok n<;>rfl
 |c7 n k aE off sz i=>simp only[SC.fG,SC.er,aj.fG];cases ok n<;>rfl
 |_=>rfl
theorem SC.BG (ok:Nat->Bool) (c:SC):(c.db ok).er=c.er.db ok:=by
 cases c with
 |fn f cF=>
  simp only[SC.db,SC.er,aj.db,SC.EH,List.map_map]
  congr 1
  exact List.map_congr_left fun c _=>SC.Ep ok c
 |ptr n k sz off=>exact SC.Ep ok (.ptr n k sz off)
 |sl n sz lo len=>exact SC.Ep ok (.sl n sz lo len)
 |bE n k aE off sz len=>exact SC.Ep ok (.bE n k aE off sz len)
 |c7 n k aE off sz i=>exact SC.Ep ok (.c7 n k aE off sz i)
 |_=>rfl
def SV.db (ok:Nat->Bool):SV->SV
 |.one c=>.one (c.db ok)
 |.agg cs=>.agg (cs.map (SC.db ok))
 |.br xs=>.br (xs.map fun x=>(x.1,x.2.map (SC.db ok)))
theorem NJ (ok:Nat->Bool) (cs:List SC):(cs.map (SC.db ok)).map SC.er=(cs.map SC.er).map (aj.db ok):=by
 simp only[List.map_map]
 exact List.map_congr_left fun c _=>SC.BG ok c
theorem SV.BG (ok:Nat->Bool) (v:SV):(v.db ok).er=v.er.db ok:=by
 cases v with
 |one c=>simp only[SV.db,SV.er,ak.db,SC.BG]
 |agg cs=>simp only[SV.db,SV.er,ak.db,NJ]
 |br xs=>
  simp only[SV.db,SV.er,ak.db,List.map_map]
  congr 1
  exact List.map_congr_left fun x _=>by simp only[Function.comp];rw[NJ]
def SB.db (ok:Nat->Bool):SB->SB
 |.box cs=>.box (cs.map (SC.db ok))
 |.row gr m ts xs=>.row gr m ts xs
theorem SB.BG (ok:Nat->Bool) (b:SB):(b.db ok).er=b.er.db ok:=by
 cases b with
 |box cs=>simp only[SB.db,SB.er,ar.db,NJ]
 |row gr m ts xs=>rfl
def Ax (ok:Nat->Bool) (env:Nat->SV):List Nat->(Nat->SV)
 |[]=>fun _=>.one .bq
 |s::ss=>aA (Ax ok env ss) s ((env s).db ok)
def vN (ok:Nat->Bool) (h:Nat->Option SB):List Nat->(Nat->Option SB)
 |[]=>fun _=>none
 |s::ss=>match ok s with
  |true=>match h s with
   |some b=>aA (vN ok h ss) s (some (b.db ok))
   |none=>vN ok h ss
  |false=>vN ok h ss
def sL (ok:Nat->Bool):List Nat->(Nat->Bool)
 |[]=>fun _=>false
 |s::ss=>match ok s with
  |true=>aA (sL ok ss) s true
  |false=>sL ok ss
theorem ad8 (ok:Nat->Bool) (env:Nat->SV):∀l,qK (Ax ok env l)=vC ok (qK env) l
 |[]=>rfl
 |s::ss=>by simp only[Ax,vC,wH,ad8 ok env ss,SV.BG];rfl
theorem LH (ok:Nat->Bool) (h:Nat->Option SB):∀l,dc (vN ok h l)=rr ok (dc h) l
 |[]=>rfl
 |s::ss=>by
  simp only[vN,rr]
  cases ok s with
  |false=>simp only[LH ok h ss,Bool.false_eq_true,if_false]
  |true=>
   have:dc h s=(h s).map SB.er:=rfl
   simp only[if_true,this]
   cases h s with
   |none=>simp only[Option.map_none,LH ok h ss]
   |some b=>simp only[Jx,LH ok h ss,Option.map_some,SB.BG]
theorem ad9 (ok:Nat->Bool):∀l,sL ok l=vD ok l
 |[]=>rfl
 |s::ss=>by
  simp only[sL,vD]
  cases ok s<;>simp[ad9 ok ss]
theorem WA (ok:Nat->Bool) (env:Nat->SV):∀(l:List Nat) (s:Nat),s∉l->Ax ok env l s=.one .bq
 |[],s,_=>rfl
 |a::l,s,h=>by
  simp only[List.mem_cons,not_or] at h
  simp only[Ax,cE _ _ _ _ h.1,WA ok env l s h.2]
theorem WB (ok:Nat->Bool) (hp:Nat->Option SB):∀(l:List Nat) (s:Nat),s∉l->vN ok hp l s=none
 |[],s,_=>rfl
 |a::l,s,h=>by
  simp only[List.mem_cons,not_or] at h
  have ih:=WB ok hp l s h.2
  simp only[vN]
  cases ok a with
  |false=>exact ih
  |true=>
   cases hp a with
   |none=>exact ih
   |some b=>simp only[cE _ _ _ _ h.1];exact ih
theorem WC (ok:Nat->Bool):∀(l:List Nat) (s:Nat),s∉l->sL ok l s=false
 |[],s,_=>rfl
 |a::l,s,h=>by
  simp only[List.mem_cons,not_or] at h
  have ih:=WC ok l s h.2
  simp only[sL]
  cases ok a with
  |false=>exact ih
  |true=>simp only[cE _ _ _ _ h.1];exact ih
def SC.xI (n:Nat):SC->Bool
 |.ptr m _ _ _=>Nat.beq m n
 |.sl m _ _ _=>Nat.beq m n
 |.bE m _ _ _ _ _=>Nat.beq m n
 |.c7 m _ _ _ _ _=>Nat.beq m n
 |_=>false
def SC.g0 (n:Nat):SC->Bool
 |.fn _ cF=>cF.any (SC.xI n)
 |.ptr m _ _ _=>Nat.beq m n
 |.sl m _ _ _=>Nat.beq m n
 |.bE m _ _ _ _ _=>Nat.beq m n
 |.c7 m _ _ _ _ _=>Nat.beq m n
 |.v _ _=>false
 |.nil _=>false
 |.cH _ _ _=>false
 |.bq=>false
theorem Ei (m n:Nat):(m==n)=Nat.beq m n:=by
 rw[Bool.eq_iff_iff,beq_iff_eq]
 exact⟨fun h=>by rw[h];exact Nat.beq_refl n,Nat.eq_of_beq_eq_true⟩
theorem SC.aqN (n:Nat) (c:SC):c.er.xI n=c.xI n:=by
 cases c<;>simp[SC.er,aj.xI,SC.xI,Ei]
theorem SC.Lc (n:Nat) (c:SC):c.er.g0 n=c.g0 n:=by
 cases c with
 |fn f cF=>
  simp only[SC.er,SC.EH,aj.g0,SC.g0,List.any_map]
  congr 1
  funext c
  exact SC.aqN n c
 |ptr m _ _ _=>exact Ei m n
 |sl m _ _ _=>exact Ei m n
 |bE m _ _ _ _ _=>exact Ei m n
 |c7 m _ _ _ _ _=>exact Ei m n
 |_=>rfl
def SV.g0 (n:Nat):SV->Bool
 |.one c=>c.g0 n
 |.agg cs=>cs.any (SC.g0 n)
 |.br xs=>xs.any fun x=>x.2.any (SC.g0 n)
theorem Tv (n:Nat) (cs:List SC):(cs.map SC.er).any (aj.g0 n)=cs.any (SC.g0 n):=by
 rw[List.any_map]
 congr 1
 funext c
 exact SC.Lc n c
theorem SV.Lc (n:Nat) (v:SV):v.er.g0 n=v.g0 n:=by
 cases v with
 |one c=>exact SC.Lc n c
 |agg cs=>exact Tv n cs
 |br xs=>
  simp only[SV.er,ak.g0,SV.g0,List.any_map]
  congr 1
  funext x
  exact Tv n x.2
def acU (n:Nat):Option SB->Bool
 |some (.box cs)=>cs.any (SC.g0 n)
 |_=>false
def Jv (n:Nat):List Nat->Bool
 |[]=>false
 |m::l=>match Nat.beq n m with
  |true=>true
  |false=>Jv n l
theorem Zd (n:Nat):∀l:List Nat,Jv n l=l.contains n
 |[]=>rfl
 |m::l=>by
  simp only[Jv,List.contains_cons]
  have e:(n==m)=Nat.beq n m:=by cases h:Nat.beq n m with
   |true=>simpa using Nat.eq_of_beq_eq_true h
   |false=>simp;intro h';rw[h',Nat.beq_refl] at h;cases h
  rw[e,Zd n l]
  cases Nat.beq n m<;>rfl
def ah.jm (σ:ah) (ke kh:List Nat):Nat->Bool:=fun n=>(σ.h n).isSome&&Jv n kh&&(Nat.ble aK n||ke.any (fun s=>(σ.env s).g0 n)||kh.any fun k=>acU n (σ.h k))
theorem ah.api (σ:ah) (ke kh:List Nat):σ.er.jm ke kh=σ.jm ke kh:=by
 funext n
 simp only[St.jm,ah.jm]
 have h1:(σ.er.h n).isSome=(σ.h n).isSome:=Zk σ.h n
 have h2:(fun s=>(σ.er.env s).g0 n)=fun s=>(σ.env s).g0 n:=by funext s;exact SV.Lc n _
 have h3:(fun k=>match σ.er.h k with|some (.box cs)=>cs.any (·.g0 n)|_=>false)=fun k=>acU n (σ.h k):=by
  funext k
  have:σ.er.h k=(σ.h k).map SB.er:=rfl
  rw[this]
  cases σ.h k with
  |none=>rfl
  |some b=>cases b with
   |box cs=>exact Tv n cs
   |row gr m ts xs=>rfl
 rw[h1,h2,Zd,Bool.and_comm (x:=(σ.h n).isSome)]
 exact congrArg (fun g:Nat->Bool=>(kh.contains n&&(σ.h n).isSome&&((Nat.ble aK n||ke.any fun s=>SV.g0 n (σ.env s))||kh.any g))) h3
def ah.iE (σ:ah) (ke kh:List Nat):ah:=
 {env:=Ax (σ.jm ke kh) σ.env ke,h:=vN (σ.jm ke kh) σ.h kh,used:=fun n=>Nat.ble aK n||sL (σ.jm ke kh) kh n}
theorem ah.TF (σ:ah) (ke kh:List Nat):(σ.iE ke kh).er=σ.er.iE ke kh:=by
 simp only[ah.iE,St.iE,ah.api]
 have e1:=ad8 (σ.jm ke kh) σ.env ke
 have e2:=LH (σ.jm ke kh) σ.h kh
 have e3:=ad9 (σ.jm ke kh) kh
 show St.mk (qK (Ax (σ.jm ke kh) σ.env ke)) (dc (vN (σ.jm ke kh) σ.h kh)) (fun n=>Nat.ble aK n||sL (σ.jm ke kh) kh n)=_
 rw[e1,e2,e3]
 rfl
def ua (x c n:Nat):Nat:=match Nat.beq n x with|true=>c|false=>n
theorem GD (x c n:Nat):ua x c n=ot x c n:=by
 unfold ua ot
 cases h:Nat.beq n x with
 |true=>rw[if_pos (Nat.eq_of_beq_eq_true h)]
 |false=>rw[if_neg (fun e=>by rw[e,Nat.beq_refl] at h;cases h)]
def SC.pj (x c:Nat):SC->SC
 |.ptr n k sz off=>.ptr (ua x c n) k sz off
 |.sl n sz lo len=>.sl (ua x c n) sz lo len
 |.bE n k aE off sz len=>.bE (ua x c n) k aE off sz len
 |.c7 n k aE off sz i=>.c7 (ua x c n) k aE off sz i
 |y=>y
def SC.bh (x c:Nat):SC->SC
 |.fn f cF=>.fn f (cF.map (SC.pj x c))
 |.ptr n k sz off=>.ptr (ua x c n) k sz off
 |.sl n sz lo len=>.sl (ua x c n) sz lo len
 |.bE n k aE off sz len=>.bE (ua x c n) k aE off sz len
 |.c7 n k aE off sz i=>.c7 (ua x c n) k aE off sz i
 |.v t y=>.v t y
 |.nil ts=>.nil ts
 |.cH ts y off=>.cH ts y off
 |.bq=>.bq
theorem SC.aqS (x c:Nat) (y:SC):(y.pj x c).er=y.er.pj x c:=by
 cases y<;>simp[SC.pj,SC.er,aj.pj,GD]
theorem SC.xL (x c:Nat) (y:SC):(y.bh x c).er=y.er.bh x c:=by
 cases y with
 |fn f cF=>
  simp only[SC.bh,SC.er,aj.bh,SC.EH,List.map_map]
  congr 1
  exact List.map_congr_left fun y _=>SC.aqS x c y
 |ptr n k sz off=>simp only[SC.bh,SC.er,aj.bh,aj.pj,GD]
 |sl n sz lo len=>simp only[SC.bh,SC.er,aj.bh,aj.pj,GD]
 |bE n k aE off sz len=>simp only[SC.bh,SC.er,aj.bh,aj.pj,GD]
 |c7 n k aE off sz i=>simp only[SC.bh,SC.er,aj.bh,aj.pj,GD]
 |_=>rfl
theorem TC (x c:Nat) (cs:List SC):(cs.map (SC.bh x c)).map SC.er=(cs.map SC.er).map (aj.bh x c):=by
 simp only[List.map_map]
 exact List.map_congr_left fun y _=>SC.xL x c y
def SV.bh (x c:Nat):SV->SV
 |.one y=>.one (y.bh x c)
 |.agg ys=>.agg (ys.map (SC.bh x c))
 |.br ys=>.br (ys.map fun y=>(y.1,y.2.map (SC.bh x c)))
theorem SV.xL (x c:Nat) (v:SV):(v.bh x c).er=v.er.bh x c:=by
 cases v with
 |one y=>simp only[SV.bh,SV.er,ak.bh,SC.xL]
 |agg cs=>simp only[SV.bh,SV.er,ak.bh,TC]
 |br xs=>
  simp only[SV.bh,SV.er,ak.bh,List.map_map]
  congr 1
  exact List.map_congr_left fun y _=>by simp only[Function.comp];rw[TC]
def SB.bh (x c:Nat):SB->SB
 |.box cs=>.box (cs.map (SC.bh x c))
 |.row gr m ts xs=>.row gr m ts xs
theorem SB.xL (x c:Nat) (b:SB):(b.bh x c).er=b.er.bh x c:=by
 cases b with
 |box cs=>simp only[SB.bh,SB.er,ar.bh,TC]
 |row gr m ts xs=>rfl
def ah.bh (σ:ah) (x c:Nat):Option ah:=
  match Nat.beq x c with
  |true=>some σ
  |false=>match Nat.ble aK x with
   |true=>some σ
   |false=>match σ.used c with
    |true=>none
    |false=>some
     {env:=fun s=>(σ.env s).bh x c
      h:=fun n=>match Nat.beq n c with
        |true=>(σ.h x).map (SB.bh x c)
        |false=>match Nat.beq n x with
         |true=>none
         |false=>(σ.h n).map (SB.bh x c)
      used:=fun n=>match Nat.beq n c with
        |true=>σ.used x
        |false=>match Nat.beq n x with
         |true=>false
         |false=>σ.used n}
theorem xA {m n:Nat} (h:Nat.beq m n=false):m≠n:=fun e=>by rw[e,Nat.beq_refl] at h;cases h
theorem ah.xL {σ σ1:ah} {x c:Nat} (h:σ.bh x c=some σ1):σ.er.bh x c=some σ1.er:=by
 unfold ah.bh at h
 split at h
 ·rename_i e
  injection h with h
  subst h
  simp[St.bh,Nat.eq_of_beq_eq_true e]
 ·rename_i e
  split at h
  ·rename_i hx
   injection h with h
   subst h
   simp only[St.bh,if_neg (xA e),hx,if_true]
  rename_i hx
  split at h
  ·cases h
  ·rename_i hu
   injection h with h
   subst h
   have lL:σ.er.used c=false:=hu
   simp only[St.bh,if_neg (xA e),hx,lL,Bool.false_eq_true,if_false]
   congr 1
   have mm:∀o:Option SB,(o.map (SB.bh x c)).map SB.er=(o.map SB.er).map (·.bh x c):=by
    intro o;cases o with
    |none=>rfl
    |some b=>simp only[Option.map_some,SB.xL]
   have e1:(fun s=>(σ.er.env s).bh x c)=qK (fun s=>(σ.env s).bh x c):=by
    funext s;exact(SV.xL x c (σ.env s)).symm
   have e2:(fun n=>if n=c then(σ.er.h x).map (·.bh x c) else if n=x then none else(σ.er.h n).map (·.bh x c))=dc (fun n=>match Nat.beq n c with
     |true=>(σ.h x).map (SB.bh x c)
     |false=>match Nat.beq n x with
      |true=>none
      |false=>(σ.h n).map (SB.bh x c)):=by
    funext n
    simp only[dc]
    cases hc:Nat.beq n c with
    |true=>rw[if_pos (Nat.eq_of_beq_eq_true hc)];exact(mm (σ.h x)).symm
    |false=>
     rw[if_neg (xA hc)]
     cases hx:Nat.beq n x with
     |true=>rw[if_pos (Nat.eq_of_beq_eq_true hx)];rfl
     |false=>rw[if_neg (xA hx)];exact(mm (σ.h n)).symm
   have e3:(fun n=>if n=c then σ.er.used x else if n=x then false else σ.er.used n)=(fun n=>match Nat.beq n c with
     |true=>σ.used x
     |false=>match Nat.beq n x with
      |true=>false
      |false=>σ.used n):=by
    funext n
    cases hc:Nat.beq n c with
    |true=>rw[if_pos (Nat.eq_of_beq_eq_true hc)];rfl
    |false=>
     rw[if_neg (xA hc)]
     cases hx:Nat.beq n x with
     |true=>rw[if_pos (Nat.eq_of_beq_eq_true hx)]
     |false=>rw[if_neg (xA hx)];rfl
   rw[e1,e2,e3]
   rfl
abbrev Cn:=List (Bool×Nat×Nat×Nat×Mode×List Ty)
def Cn.er (cn:Cn):List (Bool×Nat×Nat×Nat×Mode):=cn.map fun x=>(x.1,x.2.1,x.2.2.1,x.2.2.2.1,x.2.2.2.2.1)
def ah.kf (σ:ah) (c:Nat):Mode->ah
 |.aG=>match σ.h c with
  |some (.row gr .ae ts xs)=>σ.dB c (.row gr .aG ts xs)
  |_=>σ
 |_=>σ
theorem ah.agy (σ:ah) (c:Nat) (m:Mode):(σ.kf c m).er=σ.er.kf c m:=by
 cases m with
 |live=>rfl
 |ae=>rfl
 |aG=>
  simp only[ah.kf,St.kf]
  have hh:σ.er.h c=(σ.h c).map SB.er:=rfl
  rw[hh]
  cases σ.h c with
  |none=>rfl
  |some b=>cases b with
   |box cs=>rfl
   |row gr m ts xs=>cases m with
    |ae=>simp only[Option.map_some,SB.er,ah.pF]
    |live=>rfl
    |aG=>rfl
def xP (σ:ah):Bool×Nat×Nat×Nat×Mode×List Ty->Option ah
 |(true,n,j,c,m,us)=>match σ.h n with
  |some (.box cs)=>match cs[j]? with
   |some (.sl a _ _ _)=>(σ.bh a c).map fun σ1=>σ1.kf c m
   |some (.nil ts)=>match ts with
    |[]=>some σ
    |t::ts=>match σ.ins c (.row true m (t::ts) []) with
     |some σ1=>some (σ1.dB n (.box (cs.set j (.sl c (t::ts).length 0 0))))
     |none=>none
   |_=>some σ
  |_=>some σ
 |(false,n,j,c,m,us)=>match σ.env n with
  |.one (.sl a _ _ _)=>(σ.bh a c).map fun σ1=>σ1.kf c m
  |.one (.nil ts)=>match ts with
   |[]=>some σ
   |t::ts=>match σ.ins c (.row true m (t::ts) []) with
    |some σ1=>some (σ1.put (some n) (.one (.sl c (t::ts).length 0 0)))
    |none=>none
  |_=>some σ
theorem ad7 {σ σ1:ah} {a c:Nat} {m:Mode} (h:(σ.bh a c).map (fun σ1=>σ1.kf c m)=some σ1):(σ.er.bh a c).map (fun σ1=>σ1.kf c m)=some σ1.er:=by
 rw[Option.map_eq_some_iff] at h
 obtain⟨σ2,e,rfl⟩:=h
 rw[ah.xL e,Option.map_some,ah.agy]
theorem arz {σ σ1:ah} {x:Bool×Nat×Nat×Nat×Mode×List Ty} (h:xP σ x=some σ1):σ.er.canon (x.1,x.2.1,x.2.2.1,x.2.2.2.1,x.2.2.2.2.1)=some σ1.er:=by
 obtain⟨b,n,j,c,m,us⟩:=x
 cases b with
 |true=>
  simp only[xP] at h
  simp only[St.canon]
  have hh:σ.er.h n=(σ.h n).map SB.er:=rfl
  rw[hh]
  split at h
  ·rename_i cs hn
   simp only[hn,Option.map_some,SB.er,List.getElem?_map]
   split at h
   ·rename_i a _ _ _ hj
    simp only[hj,Option.map_some,SC.er]
    exact ad7 h
   ·rename_i ts hj
    simp only[hj,Option.map_some,SC.er]
    split at h
    ·injection h with h;subst h;rfl
    ·rename_i t ts
     split at h
     ·rename_i σ2 e
      injection h with h
      subst h
      have i:=ah.th e
      rw[show(SB.row true m (t::ts) []).er=ar.row true m (t::ts).length [] from rfl] at i
      simp only[List.length_cons,Nat.zero_lt_succ,if_true] at i⊢
      rw[i]
      simp only[ah.pF,SB.er,List.map_set,SC.er,List.length_cons]
     ·cases h
   ·rename_i hs hz
    injection h with h
    subst h
    cases hj:cs[j]? with
    |none=>rfl
    |some y=>cases y<;>first|rfl|(exfalso;exact hs _ _ _ _ hj)|(exfalso;exact hz _ hj)
  ·rename_i hb
   injection h with h
   subst h
   cases hn:σ.h n with
   |none=>rfl
   |some b=>cases b with
    |box cs=>exact absurd hn (hb cs)
    |row gr m ts xs=>rfl
 |false=>
  simp only[xP] at h
  simp only[St.canon]
  have hh:σ.er.env n=(σ.env n).er:=rfl
  rw[hh]
  split at h
  ·rename_i a _ _ _ hn
   simp only[hn,SV.er,SC.er]
   exact ad7 h
  ·rename_i ts hn
   simp only[hn,SV.er,SC.er]
   split at h
   ·injection h with h;subst h;rfl
   ·rename_i t ts
    split at h
    ·rename_i σ2 e
     injection h with h
     subst h
     have i:=ah.th e
     rw[show(SB.row true m (t::ts) []).er=ar.row true m (t::ts).length [] from rfl] at i
     simp only[List.length_cons,Nat.zero_lt_succ,if_true] at i⊢
     rw[i]
     simp only[ah.dv,SV.er,SC.er,List.length_cons]
    ·cases h
  ·rename_i hs hz
   injection h with h
   subst h
   cases hn:σ.env n with
   |one y=>cases y<;>first|rfl|(exfalso;exact hs _ _ _ _ hn)|(exfalso;exact hz _ hn)
   |_=>rfl
def Dj (σ:ah):Cn->Option ah
 |[]=>some σ
 |x::l=>match xP σ x with
  |some σ1=>Dj σ1 l
  |none=>none
theorem adl:∀{cn:Cn} {σ σ1:ah},Dj σ cn=some σ1->σ.er.s9 cn.er=some σ1.er
 |[],σ,σ1,h=>by simp only[Dj] at h;injection h with h;subst h;rfl
 |x::l,σ,σ1,h=>by
  simp only[Dj] at h
  split at h
  ·rename_i σ2 e
   have i:=arz e
   have j:=adl h
   simp only[Cn.er] at j
   simp only[Cn.er,List.map_cons,St.s9,i,j]
  ·cases h
section
variable {ρ:Type}
def zZ (n:Nat) (k:Nat->Option ρ):List Nat->Option ρ
 |[]=>k n
 |c::l=>match Nat.beq n c with
  |true=>k c
  |false=>zZ n k l
theorem ab9 (n:Nat) (k:Nat->Option ρ):∀l,zZ n k l=k n
 |[]=>rfl
 |c::l=>by
  simp only[zZ]
  split
  ·rename_i e;rw[Nat.eq_of_beq_eq_true e]
  ·exact ab9 n k l
def O4 (kh:List Nat) (c:SC) (k:SC->Option ρ):Option ρ:=
 match c with
 |.v t x=>k (.v t x)
 |.nil ts=>k (.nil ts)
 |.ptr n kk sz off=>zZ n (fun n=>k (.ptr n kk sz off)) kh
 |.cH ts x off=>k (.cH ts x off)
 |.sl n sz lo len=>zZ n (fun n=>k (.sl n sz lo len)) kh
 |.bE n a b c d e=>zZ n (fun n=>k (.bE n a b c d e)) kh
 |.c7 n a b c d e=>zZ n (fun n=>k (.c7 n a b c d e)) kh
 |.fn f cF=>k (.fn f cF)
 |.bq=>k .bq
theorem Z2 (kh:List Nat) (c:SC) (k:SC->Option ρ):O4 kh c k=k c:=by
 cases c<;>first|rfl|exact ab9 _ _ _
def EV (kh:List Nat):List SC->(List SC->Option ρ)->Option ρ
 |[],k=>k []
 |c::cs,k=>O4 kh c fun c=>EV kh cs fun cs=>k (c::cs)
theorem O5 (kh:List Nat):∀(cs:List SC) (k:List SC->Option ρ),EV kh cs k=k cs
 |[],k=>rfl
 |c::cs,k=>by simp only[EV,Z2,O5 kh cs]
def uO (kh:List Nat) (env:Nat->SV):List Nat->(List (Nat×SV)->Option ρ)->Option ρ
 |[],k=>k []
 |s::ss,k=>match env s with
  |.one .bq=>uO kh env ss k
  |.one c=>O4 kh c fun c=>uO kh env ss fun l=>k ((s,.one c)::l)
  |.agg cs=>EV kh cs fun cs=>uO kh env ss fun l=>k ((s,.agg cs)::l)
  |.br xs=>uO kh env ss fun l=>k ((s,.br xs)::l)
def uP (kh:List Nat) (h:Nat->Option SB):List Nat->(List (Nat×Option SB)->Option ρ)->Option ρ
 |[],k=>k []
 |n::ns,k=>match h n with
  |none=>uP kh h ns k
  |some (.box cs)=>EV kh cs fun cs=>uP kh h ns fun l=>k ((n,some (.box cs))::l)
  |some (.row gr m ts xs)=>uP kh h ns fun l=>k ((n,some (.row gr m ts xs))::l)
def yV (u:Nat->Bool):List Nat->(List Nat->Option ρ)->Option ρ
 |[],k=>k []
 |n::ns,k=>match u n with
  |true=>yV u ns fun l=>k (n::l)
  |false=>yV u ns k
def vR:List Nat->Nat->Bool
 |[],n=>Nat.ble aK n
 |m::l,n=>match Nat.beq n m with
  |true=>true
  |false=>vR l n
def ah.BW (ke kh:List Nat) (σ:ah) (k:ah->Option ρ):Option ρ:=
 uO kh σ.env ke fun le=>uP kh σ.h kh fun lh=>yV σ.used kh fun lu=>k ⟨mE le,kt lh,vR lu⟩
structure iK (ke kh:List Nat) (σ:ah):Prop where
 e:∀s,s∉ke->σ.env s=.one .bq
 h:∀n,n∉kh->σ.h n=none
 u:∀n,n∉kh->σ.used n=Nat.ble aK n
 p:∀n,σ.used n=false->Nat.ble aK n=false
theorem Z3 (kh:List Nat) (env:Nat->SV):∀(ss:List Nat) (k:List (Nat×SV)->Option ρ),∃l:List (Nat×SV),uO kh env ss k=k l/\∀s,mE l s=if s∈ss then env s else .one .bq
 |[],k=>⟨[],rfl,fun s=>by simp[mE]⟩
 |a::ss,k=>by
  have bZ:∀v:SV,env a=v->(∀k':List (Nat×SV)->Option ρ,∃l,uO kh env ss k'=k' l/\∀s,mE l s=if s∈ss then env s else .one .bq)->
    ∃l:List (Nat×SV),uO kh env ss (fun l=>k ((a,v)::l))=k l/\∀s,mE l s=if s∈a::ss then env s else .one .bq:=by
   intro v hv ih
   obtain⟨l,h1,h2⟩:=ih fun l=>k ((a,v)::l)
   refine⟨(a,v)::l,h1,fun s=>?_⟩
   simp only[mE,jr]
   split
   ·rename_i e
    subst e
    rw[if_pos (by simp)]
    exact hv.symm
   ·rename_i aD
    rw[h2 s]
    by_cases hs:s∈ss
    ·rw[if_pos hs,if_pos (by simp[hs])]
    ·rw[if_neg hs,if_neg (by simp[hs,aD])]
  have ih:=fun k':List (Nat×SV)->Option ρ=>Z3 kh env ss k'
  simp only[uO]
  split
  ·rename_i hv
   obtain⟨l,h1,h2⟩:=ih k
   refine⟨l,h1,fun s=>?_⟩
   rw[h2 s]
   by_cases hs:s∈ss
   ·rw[if_pos hs,if_pos (by simp[hs])]
   ·rw[if_neg hs]
    by_cases w6:s=a
    ·subst w6;rw[if_pos (by simp),hv]
    ·rw[if_neg (by simp[hs,w6])]
  ·rename_i c hc hv
   rw[Z2]
   exact bZ _ hv ih
  ·rename_i cs hv
   rw[O5]
   exact bZ _ hv ih
  ·rename_i xs hv
   exact bZ _ hv ih
theorem Z4 (kh:List Nat) (h:Nat->Option SB):∀(ns:List Nat) (k:List (Nat×Option SB)->Option ρ),∃l:List (Nat×Option SB),uP kh h ns k=k l/\∀n,kt l n=if n∈ns then h n else none
 |[],k=>⟨[],rfl,fun s=>by simp[kt]⟩
 |a::ns,k=>by
  have bZ:∀v:Option SB,h a=v->(∀k':List (Nat×Option SB)->Option ρ,∃l,uP kh h ns k'=k' l/\∀s,kt l s=if s∈ns then h s else none)->
    ∃l:List (Nat×Option SB),uP kh h ns (fun l=>k ((a,v)::l))=k l/\∀s,kt l s=if s∈a::ns then h s else none:=by
   intro v hv ih
   obtain⟨l,h1,h2⟩:=ih fun l=>k ((a,v)::l)
   refine⟨(a,v)::l,h1,fun s=>?_⟩
   simp only[kt,jr]
   split
   ·rename_i e
    subst e
    rw[if_pos (by simp)]
    exact hv.symm
   ·rename_i aD
    rw[h2 s]
    by_cases hs:s∈ns
    ·rw[if_pos hs,if_pos (by simp[hs])]
    ·rw[if_neg hs,if_neg (by simp[hs,aD])]
  have ih:=fun k':List (Nat×Option SB)->Option ρ=>Z4 kh h ns k'
  simp only[uP]
  split
  ·rename_i hv
   obtain⟨l,h1,h2⟩:=ih k
   refine⟨l,h1,fun s=>?_⟩
   rw[h2 s]
   by_cases hs:s∈ns
   ·rw[if_pos hs,if_pos (by simp[hs])]
   ·rw[if_neg hs]
    by_cases w6:s=a
    ·subst w6;rw[if_pos (by simp),hv]
    ·rw[if_neg (by simp[hs,w6])]
  ·rename_i cs hv
   rw[O5]
   exact bZ _ hv ih
  ·rename_i gr m ts xs hv
   exact bZ _ hv ih
theorem O6 (u:Nat->Bool) (hp:∀n,u n=false->Nat.ble aK n=false):∀(ns:List Nat) (k:List Nat->Option ρ),∃l:List Nat,yV u ns k=k l/\∀n,vR l n=if n∈ns then u n else Nat.ble aK n
 |[],k=>⟨[],rfl,fun s=>by simp[vR]⟩
 |a::ns,k=>by
  simp only[yV]
  split
  ·rename_i hv
   obtain⟨l,h1,h2⟩:=O6 u hp ns fun l=>k (a::l)
   refine⟨a::l,h1,fun s=>?_⟩
   simp only[vR]
   split
   ·rename_i e
    have:=Nat.eq_of_beq_eq_true e
    subst this
    rw[if_pos (by simp)]
    exact hv.symm
   ·rename_i e
    have aD:=xA e
    rw[h2 s]
    by_cases hs:s∈ns
    ·rw[if_pos hs,if_pos (by simp[hs])]
    ·rw[if_neg hs,if_neg (by simp[hs,aD])]
  ·rename_i hv
   obtain⟨l,h1,h2⟩:=O6 u hp ns k
   refine⟨l,h1,fun s=>?_⟩
   rw[h2 s]
   by_cases hs:s∈ns
   ·rw[if_pos hs,if_pos (by simp[hs])]
   ·rw[if_neg hs]
    by_cases w6:s=a
    ·subst w6;rw[if_pos (by simp),hv,hp _ hv]
    ·rw[if_neg (by simp[hs,w6])]
theorem JM {ke kh:List Nat} {σ:ah} (W:iK ke kh σ) (k:ah->Option ρ):σ.BW ke kh k=k σ:=by
 unfold ah.BW
 obtain⟨le,e1,e2⟩:=Z3 kh σ.env ke fun le=>uP kh σ.h kh fun lh=>yV σ.used kh fun lu=>k ⟨mE le,kt lh,vR lu⟩
 rw[e1]
 obtain⟨lh,h1,h2⟩:=Z4 kh σ.h kh fun lh=>yV σ.used kh fun lu=>k ⟨mE le,kt lh,vR lu⟩
 rw[h1]
 obtain⟨lu,u1,u2⟩:=O6 σ.used W.p kh fun lu=>k ⟨mE le,kt lh,vR lu⟩
 rw[u1]
 have a1:mE le=σ.env:=by
  funext s
  rw[e2 s]
  split
  ·rfl
  ·rename_i hs;exact(W.e s hs).symm
 have a2:kt lh=σ.h:=by
  funext s
  rw[h2 s]
  split
  ·rfl
  ·rename_i hs;exact(W.h s hs).symm
 have a3:vR lu=σ.used:=by
  funext s
  rw[u2 s]
  split
  ·rfl
  ·rename_i hs;exact(W.u s hs).symm
 rw[a1,a2,a3]
theorem iK.iE (ke kh:List Nat) (σ:ah):iK ke kh (σ.iE ke kh):=
 ⟨fun s hs=>WA _ _ _ s hs,fun n hn=>WB _ _ _ n hn,fun n hn=>by show(Nat.ble aK n||sL _ _ n)=_;rw[WC _ _ n hn,Bool.or_false],
  fun n hn=>by have bm:(Nat.ble aK n||sL _ _ n)=false:=hn;simp only[Bool.or_eq_false_iff] at bm;exact bm.1⟩
theorem iK.bh {ke kh:List Nat} {σ σ1:ah} {a c:Nat} (W:iK ke kh σ) (hc:c∈kh) (h:σ.bh a c=some σ1):iK ke kh σ1:=by
 unfold ah.bh at h
 split at h
 ·injection h with h;subst h;exact W
 ·split at h
  ·injection h with h;subst h;exact W
  ·rename_i w5
   split at h
   ·cases h
   ·rename_i Kj
    injection h with h
    subst h
    refine⟨fun s hs=>?_,fun n hn=>?_,fun n hn=>?_,fun n hn=>?_⟩
    ·show(σ.env s).bh a c=_
     rw[W.e s hs];rfl
    ·simp only
     split
     ·rename_i e;exact absurd (by rw[Nat.eq_of_beq_eq_true e];exact hc) hn
     ·split
      ·rfl
      ·rw[W.h n hn];rfl
    ·simp only
     split
     ·rename_i e;exact absurd (by rw[Nat.eq_of_beq_eq_true e];exact hc) hn
     ·split
      ·rename_i e;rw[Nat.eq_of_beq_eq_true e,w5]
      ·exact W.u n hn
    ·simp only at hn
     split at hn
     ·rename_i e;rw[Nat.eq_of_beq_eq_true e];exact W.p c Kj
     ·split at hn
      ·rename_i e;rw[Nat.eq_of_beq_eq_true e,w5]
      ·exact W.p n hn
theorem iK.ins {ke kh:List Nat} {σ σ1:ah} {c:Nat} {b:SB} (W:iK ke kh σ) (hc:c∈kh) (h:σ.ins c b=some σ1):iK ke kh σ1:=by
 unfold ah.ins at h
 split at h
 ·cases h
 ·rename_i Kj
  injection h with h
  subst h
  refine⟨W.e,fun n hn=>?_,fun n hn=>?_,fun n hn=>?_⟩
  ·show aA σ.h c _ n=_
   rw[cE _ _ _ _ (fun e=>hn (by rw[e];exact hc))];exact W.h n hn
  ·show aA σ.used c _ n=_
   rw[cE _ _ _ _ (fun e=>hn (by rw[e];exact hc))];exact W.u n hn
  ·have bm:aA σ.used c true n=false:=hn
   by_cases e:n=c
   ·subst e;rw[bN] at bm;cases bm
   ·rw[cE _ _ _ _ e] at bm;exact W.p n bm
theorem iK.kf {ke kh:List Nat} {σ:ah} (W:iK ke kh σ) (c:Nat) (m:Mode):iK ke kh (σ.kf c m):=by
 cases m with
 |live=>exact W
 |ae=>exact W
 |aG=>
  simp only[ah.kf]
  split
  ·rename_i gr ts xs hn
   exact⟨W.e,fun n hk=>by
    show aA σ.h c _ n=none
    have u9:n≠c:=fun e=>by subst e;rw[W.h n hk] at hn;cases hn
    rw[cE _ _ _ _ u9];exact W.h n hk,W.u,W.p⟩
  ·exact W
theorem iK.Ga {ke kh:List Nat} {σ σ1:ah} {a c:Nat} {m:Mode} (W:iK ke kh σ) (hc:c∈kh) (h:(σ.bh a c).map (fun σ1=>σ1.kf c m)=some σ1):iK ke kh σ1:=by
 rw[Option.map_eq_some_iff] at h
 obtain⟨σ2,e,rfl⟩:=h
 exact(W.bh hc e).kf c m
theorem iK.canon {ke kh:List Nat} {σ σ1:ah} {x:Bool×Nat×Nat×Nat×Mode×List Ty} (W:iK ke kh σ) (hc:x.2.2.2.1∈kh) (h:xP σ x=some σ1):iK ke kh σ1:=by
 obtain⟨b,n,j,c,m,us⟩:=x
 simp only at hc
 have gu:some σ=some σ1->iK ke kh σ1:=fun h=>by injection h with h;subst h;exact W
 cases b with
 |true=>
  simp only[xP] at h
  split at h
  ·rename_i cs hn
   split at h
   ·exact W.Ga hc h
   ·split at h
    ·exact gu h
    ·split at h
     ·rename_i σ2 e
      injection h with h
      subst h
      have W2:=W.ins hc e
      have PZ:n∈kh:=by
       rcases Decidable.em (n∈kh) with h|h
       ·exact h
       ·rw[W.h n h] at hn;cases hn
      exact⟨W2.e,fun q hq=>by show aA σ2.h n _ q=_;rw[cE _ _ _ _ (fun e=>hq (by rw[e];exact PZ))];exact W2.h q hq,W2.u,W2.p⟩
     ·cases h
   ·exact gu h
  ·exact gu h
 |false=>
  simp only[xP] at h
  split at h
  ·exact W.Ga hc h
  ·rename_i ts hn
   split at h
   ·exact gu h
   ·split at h
    ·rename_i σ2 e
     injection h with h
     subst h
     have W2:=W.ins hc e
     have PZ:n∈ke:=by
      rcases Decidable.em (n∈ke) with h|h
      ·exact h
      ·rw[W.e n h] at hn;cases hn
     exact⟨fun q hq=>by show aA σ2.env n _ q=_;rw[cE _ _ _ _ (fun e=>hq (by rw[e];exact PZ))];exact W2.e q hq,W2.h,W2.u,W2.p⟩
    ·cases h
  ·exact gu h
def Lq (ke kh:List Nat):Cn->ah->(ah->Option ρ)->Option ρ
 |[],σ,k=>k σ
 |x::l,σ,k=>match xP σ x with
  |some σ1=>match List.elem x.2.2.2.1 kh with
   |true=>σ1.BW ke kh fun σ2=>Lq ke kh l σ2 k
   |false=>none
  |none=>none
theorem adk {ke kh:List Nat}:∀{cn:Cn} {σ:ah} {k:ah->Option ρ} {r:ρ},iK ke kh σ->Lq ke kh cn σ k=some r->∃σ1,Dj σ cn=some σ1/\k σ1=some r
 |[],σ,k,r,W,h=>⟨σ,rfl,h⟩
 |x::l,σ,k,r,W,h=>by
  simp only[Lq] at h
  split at h
  ·rename_i σ1 e
   split at h
   ·rename_i hm
    have W1:=W.canon (by simpa using hm) e
    rw[JM W1] at h
    obtain⟨σ2,h1,h2⟩:=adk W1 h
    exact⟨σ2,by simp only[Dj,e,h1],h2⟩
   ·cases h
  ·cases h
def Dl (sh:jN) (kh:List Nat) (cn:Cn) (σ:ah) (k:sh.L.D->Option ρ):Option ρ:=
 (σ.iE sh.ke kh).BW sh.ke kh fun σ1=>(σ1.iE sh.ke kh).BW sh.ke kh fun σ2=>Lq sh.ke kh cn σ2 fun g9=>(g9.iE sh.ke kh).BW sh.ke kh fun σ4=>sh.flat kh σ4 k
theorem Lv {sh:jN} {kh:List Nat} {cn:Cn} {σ:ah} {k:sh.L.D->Option ρ} {r:ρ} (h:Dl sh kh cn σ k=some r):
  ∃x,σ.er.head sh.ke kh cn.er=some (sh.un x).er/\k x=some r:=by
 unfold Dl at h
 rw[JM (iK.iE _ _ _),JM (iK.iE _ _ _)] at h
 obtain⟨σ1,e,h⟩:=adk (iK.iE _ _ _) h
 rw[JM (iK.iE _ _ _)] at h
 obtain⟨x,h1,h2⟩:=jN.pH h (fun s hs=>WA _ _ _ s hs) (fun n hn=>⟨WB _ _ _ n hn,by show(Nat.ble aK n||sL _ _ n)=_;rw[WC _ _ n hn,Bool.or_false]⟩)
 have i:=adl e
 rw[ah.TF,ah.TF] at i
 exact⟨x,by simp only[St.head,i,<-h1,ah.TF],h2⟩
end
inductive bz where
 |skip
 |af (rU:Bool) (ops:List fv)
 |pi (ps:List (Nat×Nat)) (ops:List fv)
 |seq (a b:bz)
 |cond (c:cO) (a b:bz)
 |block (id:Nat) (c:bz)
 |join (sh:jN) (kh:List Nat) (cn:Cn) (c:bz)
 |loop (id:Nat) (sh:jN) (kh:List Nat) (cn:Cn) (c:bz)
 |exit (id:Nat)
 |ret
def bz.er:bz->mh
 |.skip=>.skip
 |.af d ops=>.af d (ops.map fv.er)
 |.pi ps ops=>.pi ps (ops.map fv.er)
 |.seq a b=>.seq a.er b.er
 |.cond c a b=>.cond c.er a.er b.er
 |.block id c=>.block id c.er
 |.join sh kh cn c=>.join sh.ke kh cn.er c.er
 |.loop id sh kh cn c=>.loop id sh.ke kh cn.er c.er
 |.exit id=>.exit id
 |.ret=>.ret
def ah.Rr (σ:ah) (c:cO) (b:Bool):ah:=
 match c with
 |.t n=>σ.lit n b
 |.k _=>σ
def xl {X ρ:Type} (o:Option ρ):Option (X⊕ρ):=o.ab fun r=>some (.inr r)
theorem CD {X ρ:Type} {o:Option ρ} {s:X⊕ρ} (h:xl o=some s):∃r,o=some r/\s=.inr r:=by
 unfold xl at h
 rw[eZ] at h
 obtain⟨r,h1,h2⟩:=h
 injection h2 with h2
 exact⟨r,h1,h2.symm⟩
def lW (N:Nat) (T:List az):bz->{ρ:Type}->ah->(ah->Option ρ)->(Nat->ah->Option ρ)->(ah->Option ρ)->Option ρ
 |.skip,_,σ,k,_,_=>k σ
 |.af _ ops,_,σ,k,_,_=>rB T ops σ k
 |.pi ps ops,_,σ,k,_,_=>rC T ps ops [] σ k
 |.seq a b,_,σ,k,ex,kr=>lW N T a σ (fun σ1=>lW N T b σ1 k ex kr) ex kr
 |.cond c a b,_,σ,k,ex,kr=>match σ.ev c with
  |.one (.v .bool t)=>ax t (lW N T a (σ.Rr c true) k ex kr) (lW N T b (σ.Rr c false) k ex kr)
  |_=>none
 |.block id c,_,σ,k,ex,kr=>lW N T c σ k (fun i σ1=>match Nat.beq i id with|true=>k σ1|false=>ex i σ1) kr
 |.join sh kh cn c,ρ,σ,k,ex,kr=>
  ca (lW N T c (ρ:=sh.L.D⊕ρ) σ (fun σ1=>Dl sh kh cn σ1 fun x=>some (.inl x)) (fun i σ1=>xl (ex i σ1)) (fun σ1=>xl (kr σ1))) fun x=>k (sh.un x)
 |.loop id sh kh cn c,ρ,σ,k,ex,kr=>
  Dl sh kh cn σ fun x0=>bM N (fun x=>lW N T c (ρ:=sh.L.D⊕ρ) (sh.un x) (fun σ1=>Dl sh kh cn σ1 fun x'=>some (.inl x')) (fun i σ1=>xl (ex i σ1)) (fun σ1=>xl (kr σ1))) x0
 |.exit id,_,σ,_,ex,_=>ex id σ
 |.ret,_,σ,_,_,kr=>kr σ
def XM {ρ:Type} (k:ah->Option ρ) (ex:Nat->ah->Option ρ) (kr:ah->Option ρ) (r:ρ):sW->Prop
 |.fR τ=>∃eI:ah,τ=eI.er/\k eI=some r
 |.ext i τ=>∃eI:ah,τ=eI.er/\ex i eI=some r
 |.ret τ=>∃eI:ah,τ=eI.er/\kr eI=some r
theorem abC {σ:ah} {c:cO} {b:Bool} (h:σ.ev c=.one (.v .bool b)):(σ.Rr c b).er=σ.er:=by
 cases c with
 |t n=>exact ah.EF h
 |k v=>rfl
theorem sJ {T:List az}:∀(m:bz) {ρ:Type} {σ:ah} {k:ah->Option ρ} {ex:Nat->ah->Option ρ} {kr:ah->Option ρ} {r:ρ},lW aC T m σ k ex kr=some r->
    ∃o:sW,d8 (cX T) m.er σ.er=some o/\XM k ex kr r o
  |.skip,ρ,σ,k,ex,kr,r,h=>⟨.fR σ.er,rfl,σ,rfl,h⟩
  |.af d ops,ρ,σ,k,ex,kr,r,h=>by
   obtain⟨σ1,h1,h2⟩:=V8 (h:rB T ops σ k=some r)
   exact⟨.fR σ1.er,by simp only[bz.er,d8,h1],σ1,rfl,h2⟩
  |.pi ps ops,ρ,σ,k,ex,kr,r,h=>by
   obtain⟨σ1,fs,h1,h2,h3⟩:=V7 (h:rC T ps ops [] σ k=some r)
   exact⟨.fR σ1.er,by simp only[bz.er,d8,h1,h2,cond_true],σ1,rfl,h3⟩
  |.seq a b,ρ,σ,k,ex,kr,r,h=>by
   obtain⟨o,h1,h2⟩:=sJ a (h:lW aC T a σ (fun σ1=>lW aC T b σ1 k ex kr) ex kr=some r)
   cases o with
   |fR τ=>
    obtain⟨eI,rfl,h2⟩:=h2
    obtain⟨o2,h3,h4⟩:=sJ b h2
    exact⟨o2,by simp only[bz.er,d8,h1,h3],h4⟩
   |ext i τ=>exact⟨.ext i τ,by simp only[bz.er,d8,h1],h2⟩
   |ret τ=>exact⟨.ret τ,by simp only[bz.er,d8,h1],h2⟩
  |.cond c a b,ρ,σ,k,ex,kr,r,h=>by
   simp only[lW] at h
   split at h
   · rename_i t hc
     have cA:σ.er.ev c.er=.one (.c (.bool t)):=by rw[ah.du,hc];rfl
     cases ht:(t:Bool) with
     |true=>
      rw[ht] at h
      simp only[Ji] at h
      obtain⟨o,h1,h2⟩:=sJ a h
      rw[abC (by rw[hc,ht])] at h1
      exact⟨o,by simp only[bz.er,d8,cA,ht,if_true,h1],h2⟩
     |false=>
      rw[ht] at h
      simp only[Es] at h
      obtain⟨o,h1,h2⟩:=sJ b h
      rw[abC (by rw[hc,ht])] at h1
      exact⟨o,by simp only[bz.er,d8,cA,ht,Bool.false_eq_true,if_false,h1],h2⟩
   · cases h
  |.block id c,ρ,σ,k,ex,kr,r,h=>by
   obtain⟨o,h1,h2⟩:=sJ c (h:lW aC T c σ k (fun i σ1=>match Nat.beq i id with|true=>k σ1|false=>ex i σ1) kr=some r)
   cases o with
   |fR τ=>exact⟨.fR τ,by simp only[bz.er,d8,h1],h2⟩
   |ret τ=>exact⟨.ret τ,by simp only[bz.er,d8,h1],h2⟩
   |ext i τ=>
    obtain⟨eI,rfl,h2⟩:=h2
    simp only at h2
    split at h2
    · rename_i e
      exact⟨.fR eI.er,by simp only[bz.er,d8,h1,if_pos (Nat.eq_of_beq_eq_true e)],eI,rfl,h2⟩
    · rename_i e
      exact⟨.ext i eI.er,by simp only[bz.er,d8,h1,if_neg (xA e)],eI,rfl,h2⟩
  |.join sh kh cn c,ρ,σ,k,ex,kr,r,h=>by
   simp only[lW,ca,Option.bind_eq_some_iff] at h
   obtain⟨s,hs,h⟩:=h
   obtain⟨o,h1,h2⟩:=sJ c hs
   cases o with
   |fR τ=>
    obtain⟨eI,rfl,h2⟩:=h2
    obtain⟨x,h3,h4⟩:=Lv h2
    injection h4 with h4
    subst h4
    exact⟨.fR (sh.un x).er,by simp only[bz.er,d8,h1,h3],sh.un x,rfl,h⟩
   |ext i τ=>
    obtain⟨eI,rfl,h2⟩:=h2
    obtain⟨y,h3,rfl⟩:=CD h2
    injection h with h
    subst h
    exact⟨.ext i eI.er,by simp only[bz.er,d8,h1],eI,rfl,h3⟩
   |ret τ=>
    obtain⟨eI,rfl,h2⟩:=h2
    obtain⟨y,h3,rfl⟩:=CD h2
    injection h with h
    subst h
    exact⟨.ret eI.er,by simp only[bz.er,d8,h1],eI,rfl,h3⟩
  |.loop id sh kh cn c,ρ,σ,k,ex,kr,r,h=>by
   simp only[lW] at h
   obtain⟨x0,h0,h⟩:=Lv h
   simp only[bz.er,d8]
   have bZ:∀(n:Nat) (x0:sh.L.D) (Md:St),Md.head sh.ke kh cn.er=some (sh.un x0).er->
       bM n (fun x=>lW aC T c (ρ:=sh.L.D⊕ρ) (sh.un x) (fun σ1=>Dl sh kh cn σ1 fun x'=>some (.inl x')) (fun i σ1=>xl (ex i σ1)) (fun σ1=>xl (kr σ1))) x0=some r->
       ∃o:sW,CQ n (fun σ=>match σ.head sh.ke kh cn.er with|some σ1=>d8 (cX T) c.er σ1|none=>none) Md=some o/\XM k ex kr r o:=by
    intro n
    induction n with
    |zero=>intro x0 Md h0 h;simp[bM] at h
    |succ n ih=>
     intro x0 Md h0 h
     simp only[bM] at h
     simp only[CQ,h0]
     split at h
     · rename_i x' hb
       obtain⟨o,h1,h2⟩:=sJ c hb
       cases o with
       |fR τ=>
        obtain⟨eI,rfl,h2⟩:=h2
        obtain⟨x2,h3,h4⟩:=Lv h2
        injection h4 with h4
        injection h4 with h4
        subst h4
        simp only[h1]
        exact ih x2 _ h3 h
       |ext i τ=>
        obtain⟨eI,rfl,h2⟩:=h2
        obtain⟨y,_,e⟩:=CD h2
        cases e
       |ret τ=>
        obtain⟨eI,rfl,h2⟩:=h2
        obtain⟨y,_,e⟩:=CD h2
        cases e
     · rename_i y hb
       injection h with h
       subst h
       obtain⟨o,h1,h2⟩:=sJ c hb
       cases o with
       |fR τ=>
        obtain⟨eI,rfl,h2⟩:=h2
        obtain⟨x2,h3,h4⟩:=Lv h2
        injection h4 with h4
        cases h4
       |ext i τ=>
        obtain⟨eI,rfl,h2⟩:=h2
        obtain⟨y',h3,e⟩:=CD h2
        injection e with e
        subst e
        exact⟨.ext i eI.er,by simp only[h1],eI,rfl,h3⟩
       |ret τ=>
        obtain⟨eI,rfl,h2⟩:=h2
        obtain⟨y',h3,e⟩:=CD h2
        injection e with e
        subst e
        exact⟨.ret eI.er,by simp only[h1],eI,rfl,h3⟩
     · cases h
   exact bZ aC x0 σ.er h0 h
  |.exit id,ρ,σ,k,ex,kr,r,h=>⟨.ext id σ.er,rfl,σ,rfl,h⟩
  |.ret,ρ,σ,k,ex,kr,r,h=>⟨.ret σ.er,rfl,σ,rfl,h⟩
end Go.Am
