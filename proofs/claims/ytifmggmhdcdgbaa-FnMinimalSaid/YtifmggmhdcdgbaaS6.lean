/- S6: heads and code of the typed evaluator. No condition. -/
import Derived.Test.YtifmggmhdcdgbaaS5
set_option linter.unusedVariables false
set_option linter.unusedSimpArgs false
namespace Go.Am
def SC.eS (ok:Nat->Bool):SC->SC
 |.ptr n k sz off=>match ok n with|true=>.ptr n k sz off|false=>.bf
 |.sl n sz lo len=>match ok n with|true=>.sl n sz lo len|false=>.bf
 |.bx n k ax off sz len=>match ok n with|true=>.bx n k ax off sz len|false=>.bf
 |.cD n k ax off sz i=>match ok n with|true=>.cD n k ax off sz i|false=>.bf
 |x=>x
def SC.cH (ok:Nat->Bool):SC->SC
 |.fn f bY=>.fn f (bY.map (SC.eS ok))
 |.v t x=>.v t x
 |.nil ts=>.nil ts
 |.ptr n k sz off=>SC.eS ok (.ptr n k sz off)
 |.cd ts x off=>.cd ts x off
 |.sl n sz lo len=>SC.eS ok (.sl n sz lo len)
 |.bx n k ax off sz len=>SC.eS ok (.bx n k ax off sz len)
 |.cD n k ax off sz i=>SC.eS ok (.cD n k ax off sz i)
 |.bf=>.bf
theorem SC.B3 (ok:Nat->Bool) (c:SC):(c.eS ok).er=c.er.eS ok:=by
 cases c with
 |ptr n k sz off=>simp only[SC.eS,SC.er,ai.eS];cases ok n<;>rfl
 |sl n sz lo len=>simp only[SC.eS,SC.er,ai.eS];cases ok n<;>rfl
 |bx n k ax off sz len=>simp only[SC.eS,SC.er,ai.eS];cases ok n<;>rfl
 |cD n k ax off sz i=>simp only[SC.eS,SC.er,ai.eS];cases ok n<;>rfl
 |_=>rfl
theorem SC.zn (ok:Nat->Bool) (c:SC):(c.cH ok).er=c.er.cH ok:=by
 cases c with
 |fn f bY=>
  simp only[SC.cH,SC.er,ai.cH,SC.Cm,List.map_map]
  congr 1
  exact List.map_congr_left fun c _=>SC.B3 ok c
 |ptr n k sz off=>exact SC.B3 ok (.ptr n k sz off)
 |sl n sz lo len=>exact SC.B3 ok (.sl n sz lo len)
 |bx n k ax off sz len=>exact SC.B3 ok (.bx n k ax off sz len)
 |cD n k ax off sz i=>exact SC.B3 ok (.cD n k ax off sz i)
 |_=>rfl
def SV.cH (ok:Nat->Bool):SV->SV
 |.one c=>.one (c.cH ok)
 |.agg cs=>.agg (cs.map (SC.cH ok))
 |.bn xs=>.bn (xs.map fun x=>(x.1,x.2.map (SC.cH ok)))
theorem Km (ok:Nat->Bool) (cs:List SC):(cs.map (SC.cH ok)).map SC.er=(cs.map SC.er).map (ai.cH ok):=by
 simp only[List.map_map]
 exact List.map_congr_left fun c _=>SC.zn ok c
theorem SV.zn (ok:Nat->Bool) (v:SV):(v.cH ok).er=v.er.cH ok:=by
 cases v with
 |one c=>simp only[SV.cH,SV.er,ak.cH,SC.zn]
 |agg cs=>simp only[SV.cH,SV.er,ak.cH,Km]
 |bn xs=>
  simp only[SV.cH,SV.er,ak.cH,List.map_map]
  congr 1
  exact List.map_congr_left fun x _=>by simp only[Function.comp];rw[Km]
def SB.cH (ok:Nat->Bool):SB->SB
 |.box cs=>.box (cs.map (SC.cH ok))
 |.row gr m ts xs=>.row gr m ts xs
theorem SB.zn (ok:Nat->Bool) (b:SB):(b.cH ok).er=b.er.cH ok:=by
 cases b with
 |box cs=>simp only[SB.cH,SB.er,aq.cH,Km]
 |row gr m ts xs=>rfl
def yH (ok:Nat->Bool) (env:Nat->SV):List Nat->(Nat->SV)
 |[]=>fun _=>.one .bf
 |s::ss=>au (yH ok env ss) s ((env s).cH ok)
def ug (ok:Nat->Bool) (h:Nat->Option SB):List Nat->(Nat->Option SB)
 |[]=>fun _=>none
 |s::ss=>match ok s with
  |true=>match h s with
   |some b=>au (ug ok h ss) s (some (b.cH ok))
   |none=>ug ok h ss
  |false=>ug ok h ss
def ra (ok:Nat->Bool):List Nat->(Nat->Bool)
 |[]=>fun _=>false
 |s::ss=>match ok s with
  |true=>au (ra ok ss) s true
  |false=>ra ok ss
theorem Zo (ok:Nat->Bool) (env:Nat->SV):∀l,o7 (yH ok env l)=tZ ok (o7 env) l
 |[]=>rfl
 |s::ss=>by simp only[yH,tZ,uQ,Zo ok env ss,SV.zn];rfl
theorem IP (ok:Nat->Bool) (h:Nat->Option SB):∀l,cL (ug ok h l)=pO ok (cL h) l
 |[]=>rfl
 |s::ss=>by
  simp only[ug,pO]
  cases ok s with
  |false=>simp only[IP ok h ss,Bool.false_eq_true,if_false]
  |true=>
   have:cL h s=(h s).map SB.er:=rfl
   simp only[if_true,this]
   cases h s with
   |none=>simp only[Option.map_none,IP ok h ss]
   |some b=>simp only[Gn,IP ok h ss,Option.map_some,SB.zn]
theorem Zp (ok:Nat->Bool):∀l,ra ok l=t7 ok l
 |[]=>rfl
 |s::ss=>by
  simp only[ra,t7]
  cases ok s<;>simp[Zp ok ss]
theorem RO (ok:Nat->Bool) (env:Nat->SV):∀(l:List Nat) (s:Nat),s∉l->yH ok env l s=.one .bf
 |[],s,_=>rfl
 |a::l,s,h=>by
  simp only[List.mem_cons,not_or] at h
  simp only[yH,cb _ _ _ _ h.1,RO ok env l s h.2]
theorem RP (ok:Nat->Bool) (hp:Nat->Option SB):∀(l:List Nat) (s:Nat),s∉l->ug ok hp l s=none
 |[],s,_=>rfl
 |a::l,s,h=>by
  simp only[List.mem_cons,not_or] at h
  have ih:=RP ok hp l s h.2
  simp only[ug]
  cases ok a with
  |false=>exact ih
  |true=>
   cases hp a with
   |none=>exact ih
   |some b=>simp only[cb _ _ _ _ h.1];exact ih
theorem RQ (ok:Nat->Bool):∀(l:List Nat) (s:Nat),s∉l->ra ok l s=false
 |[],s,_=>rfl
 |a::l,s,h=>by
  simp only[List.mem_cons,not_or] at h
  have ih:=RQ ok l s h.2
  simp only[ra]
  cases ok a with
  |false=>exact ih
  |true=>simp only[cb _ _ _ _ h.1];exact ih
def SC.vV (n:Nat):SC->Bool
 |.ptr m _ _ _=>Nat.beq m n
 |.sl m _ _ _=>Nat.beq m n
 |.bx m _ _ _ _ _=>Nat.beq m n
 |.cD m _ _ _ _ _=>Nat.beq m n
 |_=>false
def SC.gb (n:Nat):SC->Bool
 |.fn _ bY=>bY.any (SC.vV n)
 |.ptr m _ _ _=>Nat.beq m n
 |.sl m _ _ _=>Nat.beq m n
 |.bx m _ _ _ _ _=>Nat.beq m n
 |.cD m _ _ _ _ _=>Nat.beq m n
 |.v _ _=>false
 |.nil _=>false
 |.cd _ _ _=>false
 |.bf=>false
theorem BZ (m n:Nat):(m==n)=Nat.beq m n:=by
 rw[Bool.eq_iff_iff,beq_iff_eq]
 exact⟨fun h=>by rw[h];exact Nat.beq_refl n,Nat.eq_of_beq_eq_true⟩
theorem SC.ajb (n:Nat) (c:SC):c.er.vV n=c.vV n:=by
 cases c<;>simp[SC.er,ai.vV,SC.vV,BZ]
theorem SC.Ik (n:Nat) (c:SC):c.er.gb n=c.gb n:=by
 cases c with
 |fn f bY=>
  simp only[SC.er,SC.Cm,ai.gb,SC.gb,List.any_map]
  congr 1
  funext c
  exact SC.ajb n c
 |ptr m _ _ _=>exact BZ m n
 |sl m _ _ _=>exact BZ m n
 |bx m _ _ _ _ _=>exact BZ m n
 |cD m _ _ _ _ _=>exact BZ m n
 |_=>rfl
def SV.gb (n:Nat):SV->Bool
 |.one c=>c.gb n
 |.agg cs=>cs.any (SC.gb n)
 |.bn xs=>xs.any fun x=>x.2.any (SC.gb n)
theorem PI (n:Nat) (cs:List SC):(cs.map SC.er).any (ai.gb n)=cs.any (SC.gb n):=by
 rw[List.any_map]
 congr 1
 funext c
 exact SC.Ik n c
theorem SV.Ik (n:Nat) (v:SV):v.er.gb n=v.gb n:=by
 cases v with
 |one c=>exact SC.Ik n c
 |agg cs=>exact PI n cs
 |bn xs=>
  simp only[SV.er,ak.gb,SV.gb,List.any_map]
  congr 1
  funext x
  exact PI n x.2
def YA (n:Nat):Option SB->Bool
 |some (.box cs)=>cs.any (SC.gb n)
 |_=>false
def Gm (n:Nat):List Nat->Bool
 |[]=>false
 |m::l=>match Nat.beq n m with
  |true=>true
  |false=>Gm n l
theorem Ua (n:Nat):∀l:List Nat,Gm n l=l.contains n
 |[]=>rfl
 |m::l=>by
  simp only[Gm,List.contains_cons]
  have e:(n==m)=Nat.beq n m:=by cases h:Nat.beq n m with
   |true=>simpa using Nat.eq_of_beq_eq_true h
   |false=>simp;intro h';rw[h',Nat.beq_refl] at h;cases h
  rw[e,Ua n l]
  cases Nat.beq n m<;>rfl
def ah.ir (σ:ah) (ke kh:List Nat):Nat->Bool:=fun n=>(σ.h n).isSome&&Gm n kh&&(Nat.ble aF n||ke.any (fun s=>(σ.env s).gb n)||kh.any fun k=>YA n (σ.h k))
theorem ah.aic (σ:ah) (ke kh:List Nat):σ.er.ir ke kh=σ.ir ke kh:=by
 funext n
 simp only[St.ir,ah.ir]
 have h1:(σ.er.h n).isSome=(σ.h n).isSome:=Uf σ.h n
 have h2:(fun s=>(σ.er.env s).gb n)=fun s=>(σ.env s).gb n:=by funext s;exact SV.Ik n _
 have h3:(fun k=>match σ.er.h k with|some (.box cs)=>cs.any (·.gb n)|_=>false)=fun k=>YA n (σ.h k):=by
  funext k
  have:σ.er.h k=(σ.h k).map SB.er:=rfl
  rw[this]
  cases σ.h k with
  |none=>rfl
  |some b=>cases b with
   |box cs=>exact PI n cs
   |row gr m ts xs=>rfl
 rw[h1,h2,Ua,Bool.and_comm (x:=(σ.h n).isSome)]
 exact congrArg (fun g:Nat->Bool=>(kh.contains n&&(σ.h n).isSome&&((Nat.ble aF n||ke.any fun s=>SV.gb n (σ.env s))||kh.any g))) h3
def ah.gP (σ:ah) (ke kh:List Nat):ah:=
 {env:=yH (σ.ir ke kh) σ.env ke,h:=ug (σ.ir ke kh) σ.h kh,used:=fun n=>Nat.ble aF n||ra (σ.ir ke kh) kh n}
theorem ah.PO (σ:ah) (ke kh:List Nat):(σ.gP ke kh).er=σ.er.gP ke kh:=by
 simp only[ah.gP,St.gP,ah.aic]
 have e1:=Zo (σ.ir ke kh) σ.env ke
 have e2:=IP (σ.ir ke kh) σ.h kh
 have e3:=Zp (σ.ir ke kh) kh
 show St.mk (o7 (yH (σ.ir ke kh) σ.env ke)) (cL (ug (σ.ir ke kh) σ.h kh)) (fun n=>Nat.ble aF n||ra (σ.ir ke kh) kh n)=_
 rw[e1,e2,e3]
 rfl
def sH (x c n:Nat):Nat:=match Nat.beq n x with|true=>c|false=>n
theorem Ec (x c n:Nat):sH x c n=mU x c n:=by
 unfold sH mU
 cases h:Nat.beq n x with
 |true=>rw[if_pos (Nat.eq_of_beq_eq_true h)]
 |false=>rw[if_neg (fun e=>by rw[e,Nat.beq_refl] at h;cases h)]
def SC.nI (x c:Nat):SC->SC
 |.ptr n k sz off=>.ptr (sH x c n) k sz off
 |.sl n sz lo len=>.sl (sH x c n) sz lo len
 |.bx n k ax off sz len=>.bx (sH x c n) k ax off sz len
 |.cD n k ax off sz i=>.cD (sH x c n) k ax off sz i
 |y=>y
def SC.aU (x c:Nat):SC->SC
 |.fn f bY=>.fn f (bY.map (SC.nI x c))
 |.ptr n k sz off=>.ptr (sH x c n) k sz off
 |.sl n sz lo len=>.sl (sH x c n) sz lo len
 |.bx n k ax off sz len=>.bx (sH x c n) k ax off sz len
 |.cD n k ax off sz i=>.cD (sH x c n) k ax off sz i
 |.v t y=>.v t y
 |.nil ts=>.nil ts
 |.cd ts y off=>.cd ts y off
 |.bf=>.bf
theorem SC.ajh (x c:Nat) (y:SC):(y.nI x c).er=y.er.nI x c:=by
 cases y<;>simp[SC.nI,SC.er,ai.nI,Ec]
theorem SC.vY (x c:Nat) (y:SC):(y.aU x c).er=y.er.aU x c:=by
 cases y with
 |fn f bY=>
  simp only[SC.aU,SC.er,ai.aU,SC.Cm,List.map_map]
  congr 1
  exact List.map_congr_left fun y _=>SC.ajh x c y
 |ptr n k sz off=>simp only[SC.aU,SC.er,ai.aU,ai.nI,Ec]
 |sl n sz lo len=>simp only[SC.aU,SC.er,ai.aU,ai.nI,Ec]
 |bx n k ax off sz len=>simp only[SC.aU,SC.er,ai.aU,ai.nI,Ec]
 |cD n k ax off sz i=>simp only[SC.aU,SC.er,ai.aU,ai.nI,Ec]
 |_=>rfl
theorem PM (x c:Nat) (cs:List SC):(cs.map (SC.aU x c)).map SC.er=(cs.map SC.er).map (ai.aU x c):=by
 simp only[List.map_map]
 exact List.map_congr_left fun y _=>SC.vY x c y
def SV.aU (x c:Nat):SV->SV
 |.one y=>.one (y.aU x c)
 |.agg ys=>.agg (ys.map (SC.aU x c))
 |.bn ys=>.bn (ys.map fun y=>(y.1,y.2.map (SC.aU x c)))
theorem SV.vY (x c:Nat) (v:SV):(v.aU x c).er=v.er.aU x c:=by
 cases v with
 |one y=>simp only[SV.aU,SV.er,ak.aU,SC.vY]
 |agg cs=>simp only[SV.aU,SV.er,ak.aU,PM]
 |bn xs=>
  simp only[SV.aU,SV.er,ak.aU,List.map_map]
  congr 1
  exact List.map_congr_left fun y _=>by simp only[Function.comp];rw[PM]
def SB.aU (x c:Nat):SB->SB
 |.box cs=>.box (cs.map (SC.aU x c))
 |.row gr m ts xs=>.row gr m ts xs
theorem SB.vY (x c:Nat) (b:SB):(b.aU x c).er=b.er.aU x c:=by
 cases b with
 |box cs=>simp only[SB.aU,SB.er,aq.aU,PM]
 |row gr m ts xs=>rfl
def ah.aU (σ:ah) (x c:Nat):Option ah:=
  match Nat.beq x c with
  |true=>some σ
  |false=>match Nat.ble aF x with
   |true=>some σ
   |false=>match σ.used c with
    |true=>none
    |false=>some
     {env:=fun s=>(σ.env s).aU x c
      h:=fun n=>match Nat.beq n c with
        |true=>(σ.h x).map (SB.aU x c)
        |false=>match Nat.beq n x with
         |true=>none
         |false=>(σ.h n).map (SB.aU x c)
      used:=fun n=>match Nat.beq n c with
        |true=>σ.used x
        |false=>match Nat.beq n x with
         |true=>false
         |false=>σ.used n}
theorem vO {m n:Nat} (h:Nat.beq m n=false):m≠n:=fun e=>by rw[e,Nat.beq_refl] at h;cases h
theorem ah.vY {σ σ1:ah} {x c:Nat} (h:σ.aU x c=some σ1):σ.er.aU x c=some σ1.er:=by
 unfold ah.aU at h
 split at h
 ·rename_i e
  injection h with h
  subst h
  simp[St.aU,Nat.eq_of_beq_eq_true e]
 ·rename_i e
  split at h
  ·rename_i hx
   injection h with h
   subst h
   simp only[St.aU,if_neg (vO e),hx,if_true]
  rename_i hx
  split at h
  ·cases h
  ·rename_i hu
   injection h with h
   subst h
   have jq:σ.er.used c=false:=hu
   simp only[St.aU,if_neg (vO e),hx,jq,Bool.false_eq_true,if_false]
   congr 1
   have mm:∀o:Option SB,(o.map (SB.aU x c)).map SB.er=(o.map SB.er).map (·.aU x c):=by
    intro o;cases o with
    |none=>rfl
    |some b=>simp only[Option.map_some,SB.vY]
   have e1:(fun s=>(σ.er.env s).aU x c)=o7 (fun s=>(σ.env s).aU x c):=by
    funext s;exact(SV.vY x c (σ.env s)).symm
   have e2:(fun n=>if n=c then(σ.er.h x).map (·.aU x c) else if n=x then none else(σ.er.h n).map (·.aU x c))=cL (fun n=>match Nat.beq n c with
     |true=>(σ.h x).map (SB.aU x c)
     |false=>match Nat.beq n x with
      |true=>none
      |false=>(σ.h n).map (SB.aU x c)):=by
    funext n
    simp only[cL]
    cases hc:Nat.beq n c with
    |true=>rw[if_pos (Nat.eq_of_beq_eq_true hc)];exact(mm (σ.h x)).symm
    |false=>
     rw[if_neg (vO hc)]
     cases hx:Nat.beq n x with
     |true=>rw[if_pos (Nat.eq_of_beq_eq_true hx)];rfl
     |false=>rw[if_neg (vO hx)];exact(mm (σ.h n)).symm
   have e3:(fun n=>if n=c then σ.er.used x else if n=x then false else σ.er.used n)=(fun n=>match Nat.beq n c with
     |true=>σ.used x
     |false=>match Nat.beq n x with
      |true=>false
      |false=>σ.used n):=by
    funext n
    cases hc:Nat.beq n c with
    |true=>rw[if_pos (Nat.eq_of_beq_eq_true hc)];rfl
    |false=>
     rw[if_neg (vO hc)]
     cases hx:Nat.beq n x with
     |true=>rw[if_pos (Nat.eq_of_beq_eq_true hx)]
     |false=>rw[if_neg (vO hx)];rfl
   rw[e1,e2,e3]
   rfl
abbrev Cn:=List (Bool×Nat×Nat×Nat×Mode×List Ty)
def Cn.er (cn:Cn):List (Bool×Nat×Nat×Nat×Mode):=cn.map fun x=>(x.1,x.2.1,x.2.2.1,x.2.2.2.1,x.2.2.2.2.1)
def ah.jd (σ:ah) (c:Nat):Mode->ah
 |.aA=>match σ.h c with
  |some (.row gr .ae ts xs)=>σ.dd c (.row gr .aA ts xs)
  |_=>σ
 |_=>σ
theorem ah.abk (σ:ah) (c:Nat) (m:Mode):(σ.jd c m).er=σ.er.jd c m:=by
 cases m with
 |live=>rfl
 |ae=>rfl
 |aA=>
  simp only[ah.jd,St.jd]
  have hh:σ.er.h c=(σ.h c).map SB.er:=rfl
  rw[hh]
  cases σ.h c with
  |none=>rfl
  |some b=>cases b with
   |box cs=>rfl
   |row gr m ts xs=>cases m with
    |ae=>simp only[Option.map_some,SB.er,ah.nY]
    |live=>rfl
    |aA=>rfl
def v9 (σ:ah):Bool×Nat×Nat×Nat×Mode×List Ty->Option ah
 |(true,n,j,c,m,us)=>match σ.h n with
  |some (.box cs)=>match cs[j]? with
   |some (.sl a _ _ _)=>(σ.aU a c).map fun σ1=>σ1.jd c m
   |some (.nil ts)=>match ts with
    |[]=>some σ
    |t::ts=>match σ.ins c (.row true m (t::ts) []) with
     |some σ1=>some (σ1.dd n (.box (cs.set j (.sl c (t::ts).length 0 0))))
     |none=>none
   |_=>some σ
  |_=>some σ
 |(false,n,j,c,m,us)=>match σ.env n with
  |.one (.sl a _ _ _)=>(σ.aU a c).map fun σ1=>σ1.jd c m
  |.one (.nil ts)=>match ts with
   |[]=>some σ
   |t::ts=>match σ.ins c (.row true m (t::ts) []) with
    |some σ1=>some (σ1.put (some n) (.one (.sl c (t::ts).length 0 0)))
    |none=>none
  |_=>some σ
theorem Zn {σ σ1:ah} {a c:Nat} {m:Mode} (h:(σ.aU a c).map (fun σ1=>σ1.jd c m)=some σ1):(σ.er.aU a c).map (fun σ1=>σ1.jd c m)=some σ1.er:=by
 rw[Option.map_eq_some_iff] at h
 obtain⟨σ2,e,rfl⟩:=h
 rw[ah.vY e,Option.map_some,ah.abk]
theorem ajN {σ σ1:ah} {x:Bool×Nat×Nat×Nat×Mode×List Ty} (h:v9 σ x=some σ1):σ.er.canon (x.1,x.2.1,x.2.2.1,x.2.2.2.1,x.2.2.2.2.1)=some σ1.er:=by
 obtain⟨b,n,j,c,m,us⟩:=x
 cases b with
 |true=>
  simp only[v9] at h
  simp only[St.canon]
  have hh:σ.er.h n=(σ.h n).map SB.er:=rfl
  rw[hh]
  split at h
  ·rename_i cs hn
   simp only[hn,Option.map_some,SB.er,List.getElem?_map]
   split at h
   ·rename_i a _ _ _ hj
    simp only[hj,Option.map_some,SC.er]
    exact Zn h
   ·rename_i ts hj
    simp only[hj,Option.map_some,SC.er]
    split at h
    ·injection h with h;subst h;rfl
    ·rename_i t ts
     split at h
     ·rename_i σ2 e
      injection h with h
      subst h
      have i:=ah.rI e
      rw[show(SB.row true m (t::ts) []).er=aq.row true m (t::ts).length [] from rfl] at i
      simp only[List.length_cons,Nat.zero_lt_succ,if_true] at i⊢
      rw[i]
      simp only[ah.nY,SB.er,List.map_set,SC.er,List.length_cons]
     ·cases h
   ·rename_i hs hz
    injection h with h
    subst h
    cases hj:cs[j]? with
    |none=>rfl
    |some y=>cases y<;>first|rfl|(exfalso;exact hs _ _ _ _ hj)|(exfalso;exact hz _ hj)
  ·rename_i hb
   injection h with h
   subst h
   cases hn:σ.h n with
   |none=>rfl
   |some b=>cases b with
    |box cs=>exact absurd hn (hb cs)
    |row gr m ts xs=>rfl
 |false=>
  simp only[v9] at h
  simp only[St.canon]
  have hh:σ.er.env n=(σ.env n).er:=rfl
  rw[hh]
  split at h
  ·rename_i a _ _ _ hn
   simp only[hn,SV.er,SC.er]
   exact Zn h
  ·rename_i ts hn
   simp only[hn,SV.er,SC.er]
   split at h
   ·injection h with h;subst h;rfl
   ·rename_i t ts
    split at h
    ·rename_i σ2 e
     injection h with h
     subst h
     have i:=ah.rI e
     rw[show(SB.row true m (t::ts) []).er=aq.row true m (t::ts).length [] from rfl] at i
     simp only[List.length_cons,Nat.zero_lt_succ,if_true] at i⊢
     rw[i]
     simp only[ah.di,SV.er,SC.er,List.length_cons]
    ·cases h
  ·rename_i hs hz
   injection h with h
   subst h
   cases hn:σ.env n with
   |one y=>cases y<;>first|rfl|(exfalso;exact hs _ _ _ _ hn)|(exfalso;exact hz _ hn)
   |_=>rfl
def Bg (σ:ah):Cn->Option ah
 |[]=>some σ
 |x::l=>match v9 σ x with
  |some σ1=>Bg σ1 l
  |none=>none
theorem YT:∀{cn:Cn} {σ σ1:ah},Bg σ cn=some σ1->σ.er.rA cn.er=some σ1.er
 |[],σ,σ1,h=>by simp only[Bg] at h;injection h with h;subst h;rfl
 |x::l,σ,σ1,h=>by
  simp only[Bg] at h
  split at h
  ·rename_i σ2 e
   have i:=ajN e
   have j:=YT h
   simp only[Cn.er] at j
   simp only[Cn.er,List.map_cons,St.rA,i,j]
  ·cases h
section
variable {ρ:Type}
def yi (n:Nat) (k:Nat->Option ρ):List Nat->Option ρ
 |[]=>k n
 |c::l=>match Nat.beq n c with
  |true=>k c
  |false=>yi n k l
theorem XT (n:Nat) (k:Nat->Option ρ):∀l,yi n k l=k n
 |[]=>rfl
 |c::l=>by
  simp only[yi]
  split
  ·rename_i e;rw[Nat.eq_of_beq_eq_true e]
  ·exact XT n k l
def Lf (kh:List Nat) (c:SC) (k:SC->Option ρ):Option ρ:=
 match c with
 |.v t x=>k (.v t x)
 |.nil ts=>k (.nil ts)
 |.ptr n kk sz off=>yi n (fun n=>k (.ptr n kk sz off)) kh
 |.cd ts x off=>k (.cd ts x off)
 |.sl n sz lo len=>yi n (fun n=>k (.sl n sz lo len)) kh
 |.bx n a b c d e=>yi n (fun n=>k (.bx n a b c d e)) kh
 |.cD n a b c d e=>yi n (fun n=>k (.cD n a b c d e)) kh
 |.fn f bY=>k (.fn f bY)
 |.bf=>k .bf
theorem UW (kh:List Nat) (c:SC) (k:SC->Option ρ):Lf kh c k=k c:=by
 cases c<;>first|rfl|exact XT _ _ _
def CB (kh:List Nat):List SC->(List SC->Option ρ)->Option ρ
 |[],k=>k []
 |c::cs,k=>Lf kh c fun c=>CB kh cs fun cs=>k (c::cs)
theorem Lg (kh:List Nat):∀(cs:List SC) (k:List SC->Option ρ),CB kh cs k=k cs
 |[],k=>rfl
 |c::cs,k=>by simp only[CB,UW,Lg kh cs]
def td (kh:List Nat) (env:Nat->SV):List Nat->(List (Nat×SV)->Option ρ)->Option ρ
 |[],k=>k []
 |s::ss,k=>match env s with
  |.one .bf=>td kh env ss k
  |.one c=>Lf kh c fun c=>td kh env ss fun l=>k ((s,.one c)::l)
  |.agg cs=>CB kh cs fun cs=>td kh env ss fun l=>k ((s,.agg cs)::l)
  |.bn xs=>td kh env ss fun l=>k ((s,.bn xs)::l)
def te (kh:List Nat) (h:Nat->Option SB):List Nat->(List (Nat×Option SB)->Option ρ)->Option ρ
 |[],k=>k []
 |n::ns,k=>match h n with
  |none=>te kh h ns k
  |some (.box cs)=>CB kh cs fun cs=>te kh h ns fun l=>k ((n,some (.box cs))::l)
  |some (.row gr m ts xs)=>te kh h ns fun l=>k ((n,some (.row gr m ts xs))::l)
def xm (u:Nat->Bool):List Nat->(List Nat->Option ρ)->Option ρ
 |[],k=>k []
 |n::ns,k=>match u n with
  |true=>xm u ns fun l=>k (n::l)
  |false=>xm u ns k
def uj:List Nat->Nat->Bool
 |[],n=>Nat.ble aF n
 |m::l,n=>match Nat.beq n m with
  |true=>true
  |false=>uj l n
def ah.zB (ke kh:List Nat) (σ:ah) (k:ah->Option ρ):Option ρ:=
 td kh σ.env ke fun le=>te kh σ.h kh fun lh=>xm σ.used kh fun lu=>k ⟨kV le,jk lh,uj lu⟩
structure gU (ke kh:List Nat) (σ:ah):Prop where
 e:∀s,s∉ke->σ.env s=.one .bf
 h:∀n,n∉kh->σ.h n=none
 u:∀n,n∉kh->σ.used n=Nat.ble aF n
 p:∀n,σ.used n=false->Nat.ble aF n=false
theorem UX (kh:List Nat) (env:Nat->SV):∀(ss:List Nat) (k:List (Nat×SV)->Option ρ),∃l:List (Nat×SV),td kh env ss k=k l/\∀s,kV l s=if s∈ss then env s else .one .bf
 |[],k=>⟨[],rfl,fun s=>by simp[kV]⟩
 |a::ss,k=>by
  have cu:∀v:SV,env a=v->(∀k':List (Nat×SV)->Option ρ,∃l,td kh env ss k'=k' l/\∀s,kV l s=if s∈ss then env s else .one .bf)->
    ∃l:List (Nat×SV),td kh env ss (fun l=>k ((a,v)::l))=k l/\∀s,kV l s=if s∈a::ss then env s else .one .bf:=by
   intro v hv ih
   obtain⟨l,h1,h2⟩:=ih fun l=>k ((a,v)::l)
   refine⟨(a,v)::l,h1,fun s=>?_⟩
   simp only[kV,iK]
   split
   ·rename_i e
    subst e
    rw[if_pos (by simp)]
    exact hv.symm
   ·rename_i aw
    rw[h2 s]
    by_cases hs:s∈ss
    ·rw[if_pos hs,if_pos (by simp[hs])]
    ·rw[if_neg hs,if_neg (by simp[hs,aw])]
  have ih:=fun k':List (Nat×SV)->Option ρ=>UX kh env ss k'
  simp only[td]
  split
  ·rename_i hv
   obtain⟨l,h1,h2⟩:=ih k
   refine⟨l,h1,fun s=>?_⟩
   rw[h2 s]
   by_cases hs:s∈ss
   ·rw[if_pos hs,if_pos (by simp[hs])]
   ·rw[if_neg hs]
    by_cases vg:s=a
    ·subst vg;rw[if_pos (by simp),hv]
    ·rw[if_neg (by simp[hs,vg])]
  ·rename_i c hc hv
   rw[UW]
   exact cu _ hv ih
  ·rename_i cs hv
   rw[Lg]
   exact cu _ hv ih
  ·rename_i xs hv
   exact cu _ hv ih
theorem UY (kh:List Nat) (h:Nat->Option SB):∀(ns:List Nat) (k:List (Nat×Option SB)->Option ρ),∃l:List (Nat×Option SB),te kh h ns k=k l/\∀n,jk l n=if n∈ns then h n else none
 |[],k=>⟨[],rfl,fun s=>by simp[jk]⟩
 |a::ns,k=>by
  have cu:∀v:Option SB,h a=v->(∀k':List (Nat×Option SB)->Option ρ,∃l,te kh h ns k'=k' l/\∀s,jk l s=if s∈ns then h s else none)->
    ∃l:List (Nat×Option SB),te kh h ns (fun l=>k ((a,v)::l))=k l/\∀s,jk l s=if s∈a::ns then h s else none:=by
   intro v hv ih
   obtain⟨l,h1,h2⟩:=ih fun l=>k ((a,v)::l)
   refine⟨(a,v)::l,h1,fun s=>?_⟩
   simp only[jk,iK]
   split
   ·rename_i e
    subst e
    rw[if_pos (by simp)]
    exact hv.symm
   ·rename_i aw
    rw[h2 s]
    by_cases hs:s∈ns
    ·rw[if_pos hs,if_pos (by simp[hs])]
    ·rw[if_neg hs,if_neg (by simp[hs,aw])]
  have ih:=fun k':List (Nat×Option SB)->Option ρ=>UY kh h ns k'
  simp only[te]
  split
  ·rename_i hv
   obtain⟨l,h1,h2⟩:=ih k
   refine⟨l,h1,fun s=>?_⟩
   rw[h2 s]
   by_cases hs:s∈ns
   ·rw[if_pos hs,if_pos (by simp[hs])]
   ·rw[if_neg hs]
    by_cases vg:s=a
    ·subst vg;rw[if_pos (by simp),hv]
    ·rw[if_neg (by simp[hs,vg])]
  ·rename_i cs hv
   rw[Lg]
   exact cu _ hv ih
  ·rename_i gr m ts xs hv
   exact cu _ hv ih
theorem Lh (u:Nat->Bool) (hp:∀n,u n=false->Nat.ble aF n=false):∀(ns:List Nat) (k:List Nat->Option ρ),∃l:List Nat,xm u ns k=k l/\∀n,uj l n=if n∈ns then u n else Nat.ble aF n
 |[],k=>⟨[],rfl,fun s=>by simp[uj]⟩
 |a::ns,k=>by
  simp only[xm]
  split
  ·rename_i hv
   obtain⟨l,h1,h2⟩:=Lh u hp ns fun l=>k (a::l)
   refine⟨a::l,h1,fun s=>?_⟩
   simp only[uj]
   split
   ·rename_i e
    have:=Nat.eq_of_beq_eq_true e
    subst this
    rw[if_pos (by simp)]
    exact hv.symm
   ·rename_i e
    have aw:=vO e
    rw[h2 s]
    by_cases hs:s∈ns
    ·rw[if_pos hs,if_pos (by simp[hs])]
    ·rw[if_neg hs,if_neg (by simp[hs,aw])]
  ·rename_i hv
   obtain⟨l,h1,h2⟩:=Lh u hp ns k
   refine⟨l,h1,fun s=>?_⟩
   rw[h2 s]
   by_cases hs:s∈ns
   ·rw[if_pos hs,if_pos (by simp[hs])]
   ·rw[if_neg hs]
    by_cases vg:s=a
    ·subst vg;rw[if_pos (by simp),hv,hp _ hv]
    ·rw[if_neg (by simp[hs,vg])]
theorem GC {ke kh:List Nat} {σ:ah} (W:gU ke kh σ) (k:ah->Option ρ):σ.zB ke kh k=k σ:=by
 unfold ah.zB
 obtain⟨le,e1,e2⟩:=UX kh σ.env ke fun le=>te kh σ.h kh fun lh=>xm σ.used kh fun lu=>k ⟨kV le,jk lh,uj lu⟩
 rw[e1]
 obtain⟨lh,h1,h2⟩:=UY kh σ.h kh fun lh=>xm σ.used kh fun lu=>k ⟨kV le,jk lh,uj lu⟩
 rw[h1]
 obtain⟨lu,u1,u2⟩:=Lh σ.used W.p kh fun lu=>k ⟨kV le,jk lh,uj lu⟩
 rw[u1]
 have a1:kV le=σ.env:=by
  funext s
  rw[e2 s]
  split
  ·rfl
  ·rename_i hs;exact(W.e s hs).symm
 have a2:jk lh=σ.h:=by
  funext s
  rw[h2 s]
  split
  ·rfl
  ·rename_i hs;exact(W.h s hs).symm
 have a3:uj lu=σ.used:=by
  funext s
  rw[u2 s]
  split
  ·rfl
  ·rename_i hs;exact(W.u s hs).symm
 rw[a1,a2,a3]
theorem gU.gP (ke kh:List Nat) (σ:ah):gU ke kh (σ.gP ke kh):=
 ⟨fun s hs=>RO _ _ _ s hs,fun n hn=>RP _ _ _ n hn,fun n hn=>by show(Nat.ble aF n||ra _ _ n)=_;rw[RQ _ _ n hn,Bool.or_false],
  fun n hn=>by have bk:(Nat.ble aF n||ra _ _ n)=false:=hn;simp only[Bool.or_eq_false_iff] at bk;exact bk.1⟩
theorem gU.aU {ke kh:List Nat} {σ σ1:ah} {a c:Nat} (W:gU ke kh σ) (hc:c∈kh) (h:σ.aU a c=some σ1):gU ke kh σ1:=by
 unfold ah.aU at h
 split at h
 ·injection h with h;subst h;exact W
 ·split at h
  ·injection h with h;subst h;exact W
  ·rename_i vf
   split at h
   ·cases h
   ·rename_i G9
    injection h with h
    subst h
    refine⟨fun s hs=>?_,fun n hn=>?_,fun n hn=>?_,fun n hn=>?_⟩
    ·show(σ.env s).aU a c=_
     rw[W.e s hs];rfl
    ·simp only
     split
     ·rename_i e;exact absurd (by rw[Nat.eq_of_beq_eq_true e];exact hc) hn
     ·split
      ·rfl
      ·rw[W.h n hn];rfl
    ·simp only
     split
     ·rename_i e;exact absurd (by rw[Nat.eq_of_beq_eq_true e];exact hc) hn
     ·split
      ·rename_i e;rw[Nat.eq_of_beq_eq_true e,vf]
      ·exact W.u n hn
    ·simp only at hn
     split at hn
     ·rename_i e;rw[Nat.eq_of_beq_eq_true e];exact W.p c G9
     ·split at hn
      ·rename_i e;rw[Nat.eq_of_beq_eq_true e,vf]
      ·exact W.p n hn
theorem gU.ins {ke kh:List Nat} {σ σ1:ah} {c:Nat} {b:SB} (W:gU ke kh σ) (hc:c∈kh) (h:σ.ins c b=some σ1):gU ke kh σ1:=by
 unfold ah.ins at h
 split at h
 ·cases h
 ·rename_i G9
  injection h with h
  subst h
  refine⟨W.e,fun n hn=>?_,fun n hn=>?_,fun n hn=>?_⟩
  ·show au σ.h c _ n=_
   rw[cb _ _ _ _ (fun e=>hn (by rw[e];exact hc))];exact W.h n hn
  ·show au σ.used c _ n=_
   rw[cb _ _ _ _ (fun e=>hn (by rw[e];exact hc))];exact W.u n hn
  ·have bk:au σ.used c true n=false:=hn
   by_cases e:n=c
   ·subst e;rw[bC] at bk;cases bk
   ·rw[cb _ _ _ _ e] at bk;exact W.p n bk
theorem gU.jd {ke kh:List Nat} {σ:ah} (W:gU ke kh σ) (c:Nat) (m:Mode):gU ke kh (σ.jd c m):=by
 cases m with
 |live=>exact W
 |ae=>exact W
 |aA=>
  simp only[ah.jd]
  split
  ·rename_i gr ts xs hn
   exact⟨W.e,fun n hk=>by
    show au σ.h c _ n=none
    have tx:n≠c:=fun e=>by subst e;rw[W.h n hk] at hn;cases hn
    rw[cb _ _ _ _ tx];exact W.h n hk,W.u,W.p⟩
  ·exact W
theorem gU.DO {ke kh:List Nat} {σ σ1:ah} {a c:Nat} {m:Mode} (W:gU ke kh σ) (hc:c∈kh) (h:(σ.aU a c).map (fun σ1=>σ1.jd c m)=some σ1):gU ke kh σ1:=by
 rw[Option.map_eq_some_iff] at h
 obtain⟨σ2,e,rfl⟩:=h
 exact(W.aU hc e).jd c m
theorem gU.canon {ke kh:List Nat} {σ σ1:ah} {x:Bool×Nat×Nat×Nat×Mode×List Ty} (W:gU ke kh σ) (hc:x.2.2.2.1∈kh) (h:v9 σ x=some σ1):gU ke kh σ1:=by
 obtain⟨b,n,j,c,m,us⟩:=x
 simp only at hc
 have fA:some σ=some σ1->gU ke kh σ1:=fun h=>by injection h with h;subst h;exact W
 cases b with
 |true=>
  simp only[v9] at h
  split at h
  ·rename_i cs hn
   split at h
   ·exact W.DO hc h
   ·split at h
    ·exact fA h
    ·split at h
     ·rename_i σ2 e
      injection h with h
      subst h
      have W2:=W.ins hc e
      have Mc:n∈kh:=by
       rcases Decidable.em (n∈kh) with h|h
       ·exact h
       ·rw[W.h n h] at hn;cases hn
      exact⟨W2.e,fun q hq=>by show au σ2.h n _ q=_;rw[cb _ _ _ _ (fun e=>hq (by rw[e];exact Mc))];exact W2.h q hq,W2.u,W2.p⟩
     ·cases h
   ·exact fA h
  ·exact fA h
 |false=>
  simp only[v9] at h
  split at h
  ·exact W.DO hc h
  ·rename_i ts hn
   split at h
   ·exact fA h
   ·split at h
    ·rename_i σ2 e
     injection h with h
     subst h
     have W2:=W.ins hc e
     have Mc:n∈ke:=by
      rcases Decidable.em (n∈ke) with h|h
      ·exact h
      ·rw[W.e n h] at hn;cases hn
     exact⟨fun q hq=>by show au σ2.env n _ q=_;rw[cb _ _ _ _ (fun e=>hq (by rw[e];exact Mc))];exact W2.e q hq,W2.h,W2.u,W2.p⟩
    ·cases h
  ·exact fA h
def IA (ke kh:List Nat):Cn->ah->(ah->Option ρ)->Option ρ
 |[],σ,k=>k σ
 |x::l,σ,k=>match v9 σ x with
  |some σ1=>match List.elem x.2.2.2.1 kh with
   |true=>σ1.zB ke kh fun σ2=>IA ke kh l σ2 k
   |false=>none
  |none=>none
theorem YS {ke kh:List Nat}:∀{cn:Cn} {σ:ah} {k:ah->Option ρ} {r:ρ},gU ke kh σ->IA ke kh cn σ k=some r->∃σ1,Bg σ cn=some σ1/\k σ1=some r
 |[],σ,k,r,W,h=>⟨σ,rfl,h⟩
 |x::l,σ,k,r,W,h=>by
  simp only[IA] at h
  split at h
  ·rename_i σ1 e
   split at h
   ·rename_i hm
    have W1:=W.canon (by simpa using hm) e
    rw[GC W1] at h
    obtain⟨σ2,h1,h2⟩:=YS W1 h
    exact⟨σ2,by simp only[Bg,e,h1],h2⟩
   ·cases h
  ·cases h
def Bj (sh:iN) (kh:List Nat) (cn:Cn) (σ:ah) (k:sh.L.D->Option ρ):Option ρ:=
 (σ.gP sh.ke kh).zB sh.ke kh fun σ1=>(σ1.gP sh.ke kh).zB sh.ke kh fun σ2=>IA sh.ke kh cn σ2 fun gj=>(gj.gP sh.ke kh).zB sh.ke kh fun σ4=>sh.flat kh σ4 k
theorem IE {sh:iN} {kh:List Nat} {cn:Cn} {σ:ah} {k:sh.L.D->Option ρ} {r:ρ} (h:Bj sh kh cn σ k=some r):
  ∃x,σ.er.head sh.ke kh cn.er=some (sh.un x).er/\k x=some r:=by
 unfold Bj at h
 rw[GC (gU.gP _ _ _),GC (gU.gP _ _ _)] at h
 obtain⟨σ1,e,h⟩:=YS (gU.gP _ _ _) h
 rw[GC (gU.gP _ _ _)] at h
 obtain⟨x,h1,h2⟩:=iN.n3 h (fun s hs=>RO _ _ _ s hs) (fun n hn=>⟨RP _ _ _ n hn,by show(Nat.ble aF n||ra _ _ n)=_;rw[RQ _ _ n hn,Bool.or_false]⟩)
 have i:=YT e
 rw[ah.PO,ah.PO] at i
 exact⟨x,by simp only[St.head,i,<-h1,ah.PO],h2⟩
end
inductive bT where
 |skip
 |aj (qn:Bool) (ops:List eM)
 |nH (ps:List (Nat×Nat)) (ops:List eM)
 |seq (a b:bT)
 |cond (c:cB) (a b:bT)
 |block (id:Nat) (c:bT)
 |join (sh:iN) (kh:List Nat) (cn:Cn) (c:bT)
 |loop (id:Nat) (sh:iN) (kh:List Nat) (cn:Cn) (c:bT)
 |exit (id:Nat)
 |ret
def bT.er:bT->kN
 |.skip=>.skip
 |.aj d ops=>.aj d (ops.map eM.er)
 |.nH ps ops=>.nH ps (ops.map eM.er)
 |.seq a b=>.seq a.er b.er
 |.cond c a b=>.cond c.er a.er b.er
 |.block id c=>.block id c.er
 |.join sh kh cn c=>.join sh.ke kh cn.er c.er
 |.loop id sh kh cn c=>.loop id sh.ke kh cn.er c.er
 |.exit id=>.exit id
 |.ret=>.ret
def ah.Og (σ:ah) (c:cB) (b:Bool):ah:=
 match c with
 |.t n=>σ.lit n b
 |.k _=>σ
def vr {X ρ:Type} (o:Option ρ):Option (X⊕ρ):=o.ab fun r=>some (.inr r)
theorem Ai {X ρ:Type} {o:Option ρ} {s:X⊕ρ} (h:vr o=some s):∃r,o=some r/\s=.inr r:=by
 unfold vr at h
 rw[eN] at h
 obtain⟨r,h1,h2⟩:=h
 injection h2 with h2
 exact⟨r,h1,h2.symm⟩
def kF (N:Nat) (T:List aJ):bT->{ρ:Type}->ah->(ah->Option ρ)->(Nat->ah->Option ρ)->(ah->Option ρ)->Option ρ
 |.skip,_,σ,k,_,_=>k σ
 |.aj _ ops,_,σ,k,_,_=>pV T ops σ k
 |.nH ps ops,_,σ,k,_,_=>pW T ps ops [] σ k
 |.seq a b,_,σ,k,ex,kr=>kF N T a σ (fun σ1=>kF N T b σ1 k ex kr) ex kr
 |.cond c a b,_,σ,k,ex,kr=>match σ.ev c with
  |.one (.v .bool t)=>aY t (kF N T a (σ.Og c true) k ex kr) (kF N T b (σ.Og c false) k ex kr)
  |_=>none
 |.block id c,_,σ,k,ex,kr=>kF N T c σ k (fun i σ1=>match Nat.beq i id with|true=>k σ1|false=>ex i σ1) kr
 |.join sh kh cn c,ρ,σ,k,ex,kr=>
  cT (kF N T c (ρ:=sh.L.D⊕ρ) σ (fun σ1=>Bj sh kh cn σ1 fun x=>some (.inl x)) (fun i σ1=>vr (ex i σ1)) (fun σ1=>vr (kr σ1))) fun x=>k (sh.un x)
 |.loop id sh kh cn c,ρ,σ,k,ex,kr=>
  Bj sh kh cn σ fun x0=>bQ N (fun x=>kF N T c (ρ:=sh.L.D⊕ρ) (sh.un x) (fun σ1=>Bj sh kh cn σ1 fun x'=>some (.inl x')) (fun i σ1=>vr (ex i σ1)) (fun σ1=>vr (kr σ1))) x0
 |.exit id,_,σ,_,ex,_=>ex id σ
 |.ret,_,σ,_,_,kr=>kr σ
def SP {ρ:Type} (k:ah->Option ρ) (ex:Nat->ah->Option ρ) (kr:ah->Option ρ) (r:ρ):uB->Prop
 |.ft τ=>∃dN:ah,τ=dN.er/\k dN=some r
 |.ext i τ=>∃dN:ah,τ=dN.er/\ex i dN=some r
 |.ret τ=>∃dN:ah,τ=dN.er/\kr dN=some r
theorem Xo {σ:ah} {c:cB} {b:Bool} (h:σ.ev c=.one (.v .bool b)):(σ.Og c b).er=σ.er:=by
 cases c with
 |t n=>exact ah.Ck h
 |k v=>rfl
theorem qZ {T:List aJ}:∀(m:bT) {ρ:Type} {σ:ah} {k:ah->Option ρ} {ex:Nat->ah->Option ρ} {kr:ah->Option ρ} {r:ρ},kF aN T m σ k ex kr=some r->
    ∃o:uB,dF (de T) m.er σ.er=some o/\SP k ex kr r o
  |.skip,ρ,σ,k,ex,kr,r,h=>⟨.ft σ.er,rfl,σ,rfl,h⟩
  |.aj d ops,ρ,σ,k,ex,kr,r,h=>by
   obtain⟨σ1,h1,h2⟩:=Rn (h:pV T ops σ k=some r)
   exact⟨.ft σ1.er,by simp only[bT.er,dF,h1],σ1,rfl,h2⟩
  |.nH ps ops,ρ,σ,k,ex,kr,r,h=>by
   obtain⟨σ1,fs,h1,h2,h3⟩:=Rm (h:pW T ps ops [] σ k=some r)
   exact⟨.ft σ1.er,by simp only[bT.er,dF,h1,h2,cond_true],σ1,rfl,h3⟩
  |.seq a b,ρ,σ,k,ex,kr,r,h=>by
   obtain⟨o,h1,h2⟩:=qZ a (h:kF aN T a σ (fun σ1=>kF aN T b σ1 k ex kr) ex kr=some r)
   cases o with
   |ft τ=>
    obtain⟨dN,rfl,h2⟩:=h2
    obtain⟨o2,h3,h4⟩:=qZ b h2
    exact⟨o2,by simp only[bT.er,dF,h1,h3],h4⟩
   |ext i τ=>exact⟨.ext i τ,by simp only[bT.er,dF,h1],h2⟩
   |ret τ=>exact⟨.ret τ,by simp only[bT.er,dF,h1],h2⟩
  |.cond c a b,ρ,σ,k,ex,kr,r,h=>by
   simp only[kF] at h
   split at h
   · rename_i t hc
     have ct:σ.er.ev c.er=.one (.c (.bool t)):=by rw[ah.c9,hc];rfl
     cases ht:(t:Bool) with
     |true=>
      rw[ht] at h
      simp only[zq] at h
      obtain⟨o,h1,h2⟩:=qZ a h
      rw[Xo (by rw[hc,ht])] at h1
      exact⟨o,by simp only[bT.er,dF,ct,ht,if_true,h1],h2⟩
     |false=>
      rw[ht] at h
      simp only[zp] at h
      obtain⟨o,h1,h2⟩:=qZ b h
      rw[Xo (by rw[hc,ht])] at h1
      exact⟨o,by simp only[bT.er,dF,ct,ht,Bool.false_eq_true,if_false,h1],h2⟩
   · cases h
  |.block id c,ρ,σ,k,ex,kr,r,h=>by
   obtain⟨o,h1,h2⟩:=qZ c (h:kF aN T c σ k (fun i σ1=>match Nat.beq i id with|true=>k σ1|false=>ex i σ1) kr=some r)
   cases o with
   |ft τ=>exact⟨.ft τ,by simp only[bT.er,dF,h1],h2⟩
   |ret τ=>exact⟨.ret τ,by simp only[bT.er,dF,h1],h2⟩
   |ext i τ=>
    obtain⟨dN,rfl,h2⟩:=h2
    simp only at h2
    split at h2
    · rename_i e
      exact⟨.ft dN.er,by simp only[bT.er,dF,h1,if_pos (Nat.eq_of_beq_eq_true e)],dN,rfl,h2⟩
    · rename_i e
      exact⟨.ext i dN.er,by simp only[bT.er,dF,h1,if_neg (vO e)],dN,rfl,h2⟩
  |.join sh kh cn c,ρ,σ,k,ex,kr,r,h=>by
   simp only[kF,cT,Option.bind_eq_some_iff] at h
   obtain⟨s,hs,h⟩:=h
   obtain⟨o,h1,h2⟩:=qZ c hs
   cases o with
   |ft τ=>
    obtain⟨dN,rfl,h2⟩:=h2
    obtain⟨x,h3,h4⟩:=IE h2
    injection h4 with h4
    subst h4
    exact⟨.ft (sh.un x).er,by simp only[bT.er,dF,h1,h3],sh.un x,rfl,h⟩
   |ext i τ=>
    obtain⟨dN,rfl,h2⟩:=h2
    obtain⟨y,h3,rfl⟩:=Ai h2
    injection h with h
    subst h
    exact⟨.ext i dN.er,by simp only[bT.er,dF,h1],dN,rfl,h3⟩
   |ret τ=>
    obtain⟨dN,rfl,h2⟩:=h2
    obtain⟨y,h3,rfl⟩:=Ai h2
    injection h with h
    subst h
    exact⟨.ret dN.er,by simp only[bT.er,dF,h1],dN,rfl,h3⟩
  |.loop id sh kh cn c,ρ,σ,k,ex,kr,r,h=>by
   simp only[kF] at h
   obtain⟨x0,h0,h⟩:=IE h
   simp only[bT.er,dF]
   have cu:∀(n:Nat) (x0:sh.L.D) (Jm:St),Jm.head sh.ke kh cn.er=some (sh.un x0).er->
       bQ n (fun x=>kF aN T c (ρ:=sh.L.D⊕ρ) (sh.un x) (fun σ1=>Bj sh kh cn σ1 fun x'=>some (.inl x')) (fun i σ1=>vr (ex i σ1)) (fun σ1=>vr (kr σ1))) x0=some r->
       ∃o:uB,AK n (fun σ=>match σ.head sh.ke kh cn.er with|some σ1=>dF (de T) c.er σ1|none=>none) Jm=some o/\SP k ex kr r o:=by
    intro n
    induction n with
    |zero=>intro x0 Jm h0 h;simp[bQ] at h
    |succ n ih=>
     intro x0 Jm h0 h
     simp only[bQ] at h
     simp only[AK,h0]
     split at h
     · rename_i x' hb
       obtain⟨o,h1,h2⟩:=qZ c hb
       cases o with
       |ft τ=>
        obtain⟨dN,rfl,h2⟩:=h2
        obtain⟨x2,h3,h4⟩:=IE h2
        injection h4 with h4
        injection h4 with h4
        subst h4
        simp only[h1]
        exact ih x2 _ h3 h
       |ext i τ=>
        obtain⟨dN,rfl,h2⟩:=h2
        obtain⟨y,_,e⟩:=Ai h2
        cases e
       |ret τ=>
        obtain⟨dN,rfl,h2⟩:=h2
        obtain⟨y,_,e⟩:=Ai h2
        cases e
     · rename_i y hb
       injection h with h
       subst h
       obtain⟨o,h1,h2⟩:=qZ c hb
       cases o with
       |ft τ=>
        obtain⟨dN,rfl,h2⟩:=h2
        obtain⟨x2,h3,h4⟩:=IE h2
        injection h4 with h4
        cases h4
       |ext i τ=>
        obtain⟨dN,rfl,h2⟩:=h2
        obtain⟨y',h3,e⟩:=Ai h2
        injection e with e
        subst e
        exact⟨.ext i dN.er,by simp only[h1],dN,rfl,h3⟩
       |ret τ=>
        obtain⟨dN,rfl,h2⟩:=h2
        obtain⟨y',h3,e⟩:=Ai h2
        injection e with e
        subst e
        exact⟨.ret dN.er,by simp only[h1],dN,rfl,h3⟩
     · cases h
   exact cu aN x0 σ.er h0 h
  |.exit id,ρ,σ,k,ex,kr,r,h=>⟨.ext id σ.er,rfl,σ,rfl,h⟩
  |.ret,ρ,σ,k,ex,kr,r,h=>⟨.ret σ.er,rfl,σ,rfl,h⟩
end Go.Am
