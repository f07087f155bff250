/- S6: heads and code of the typed evaluator. No condition. -/
import Derived.Test.YtfkfmbhknekkdaaS5
set_option linter.unusedVariables false
set_option linter.unusedSimpArgs false
namespace Go.Am
def SC.dT (ok:Nat->Bool):SC->SC
 |.ptr n k sz off=>match ok n with|true=>.ptr n k sz off|false=>.bg
 |.sl n sz lo len=>match ok n with|true=>.sl n sz lo len|false=>.bg
 |.bj n k au off sz len=>match ok n with|true=>.bj n k au off sz len|false=>.bg
 |.cH n k au off sz i=>match ok n with|true=>.cH n k au off sz i|false=>.bg
 |.bD ts x off j n sz len=>match ok n with|true=>.bD ts x off j n sz len|false=>.bg
 |x=>x
def SC.cG (ok:Nat->Bool):SC->SC
 |.fn f bM=>.fn f (bM.map (SC.dT ok))
 |.v t x=>.v t x
 |.nil ts=>.nil ts
 |.ptr n k sz off=>SC.dT ok (.ptr n k sz off)
 |.bV ts x off=>.bV ts x off
 |.sl n sz lo len=>SC.dT ok (.sl n sz lo len)
 |.bj n k au off sz len=>SC.dT ok (.bj n k au off sz len)
 |.cH n k au off sz i=>SC.dT ok (.cH n k au off sz i)
 |.bD ts x off j n sz len=>SC.dT ok (.bD ts x off j n sz len)
 |.bg=>.bg
theorem SC.yg (ok:Nat->Bool) (c:SC):(c.dT ok).er=c.er.dT ok:=by
 cases c with
 |ptr n k sz off=>simp only[SC.dT,SC.er,ae.dT];cases ok n<;>rfl
 |sl n sz lo len=>simp only[SC.dT,SC.er,ae.dT];cases ok n<;>rfl
 |bj n k au off sz len=>simp only[SC.dT,SC.er,ae.dT];cases ok n<;>rfl
 |cH n k au off sz i=>simp only[SC.dT,SC.er,ae.dT];cases ok n<;>rfl
 |bD ts x off j n sz len=>simp only[SC.dT,SC.er,ae.dT];cases ok n<;>rfl
 |_=>rfl
theorem SC.yh (ok:Nat->Bool) (c:SC):(c.cG ok).er=c.er.cG ok:=by
 cases c with
 |fn f bM=>
  simp only[SC.cG,SC.er,ae.cG,SC.yw,List.map_map]
  congr 1
  exact List.map_congr_left fun c _=>SC.yg ok c
 |ptr n k sz off=>exact SC.yg ok (.ptr n k sz off)
 |sl n sz lo len=>exact SC.yg ok (.sl n sz lo len)
 |bj n k au off sz len=>exact SC.yg ok (.bj n k au off sz len)
 |cH n k au off sz i=>exact SC.yg ok (.cH n k au off sz i)
 |bD ts x off j n sz len=>exact SC.yg ok (.bD ts x off j n sz len)
 |_=>rfl
def SV.cG (ok:Nat->Bool):SV->SV
 |.one c=>.one (c.cG ok)
 |.agg cs=>.agg (cs.map (SC.cG ok))
 |.aY xs=>.aY (xs.map fun x=>(x.1,x.2.map (SC.cG ok)))
theorem I9 (ok:Nat->Bool) (cs:List SC):(cs.map (SC.cG ok)).map SC.er=(cs.map SC.er).map (ae.cG ok):=by
 simp only[List.map_map]
 exact List.map_congr_left fun c _=>SC.yh ok c
theorem SV.yh (ok:Nat->Bool) (v:SV):(v.cG ok).er=v.er.cG ok:=by
 cases v with
 |one c=>simp only[SV.cG,SV.er,ai.cG,SC.yh]
 |agg cs=>simp only[SV.cG,SV.er,ai.cG,I9]
 |aY xs=>
  simp only[SV.cG,SV.er,ai.cG,List.map_map]
  congr 1
  exact List.map_congr_left fun x _=>by simp only[Function.comp];rw[I9]
def SB.cG (ok:Nat->Bool):SB->SB
 |.box cs=>.box (cs.map (SC.cG ok))
 |.row gr m ts xs=>.row gr m ts xs
theorem SB.yh (ok:Nat->Bool) (b:SB):(b.cG ok).er=b.er.cG ok:=by
 cases b with
 |box cs=>simp only[SB.cG,SB.er,ak.cG,I9]
 |row gr m ts xs=>rfl
def xo (ok:Nat->Bool) (env:Nat->SV):List Nat->(Nat->SV)
 |[]=>fun _=>.one .bg
 |s::ss=>aq (xo ok env ss) s ((env s).cG ok)
def tf (ok:Nat->Bool) (h:Nat->Option SB):List Nat->(Nat->Option SB)
 |[]=>fun _=>none
 |s::ss=>match ok s with
  |true=>match h s with
   |some b=>aq (tf ok h ss) s (some (b.cG ok))
   |none=>tf ok h ss
  |false=>tf ok h ss
def qe (ok:Nat->Bool):List Nat->(Nat->Bool)
 |[]=>fun _=>false
 |s::ss=>match ok s with
  |true=>aq (qe ok ss) s true
  |false=>qe ok ss
theorem YT (ok:Nat->Bool) (env:Nat->SV):∀l,po (xo ok env l)=sW ok (po env) l
 |[]=>rfl
 |s::ss=>by simp only[xo,sW,yr,YT ok env ss,SV.yh];rfl
theorem Hp (ok:Nat->Bool) (h:Nat->Option SB):∀l,cB (tf ok h l)=oH ok (cB h) l
 |[]=>rfl
 |s::ss=>by
  simp only[tf,oH]
  cases ok s with
  |false=>simp only[Hp ok h ss,Bool.false_eq_true,if_false]
  |true=>
   have:cB h s=(h s).map SB.er:=rfl
   simp only[if_true,this]
   cases h s with
   |none=>simp only[Option.map_none,Hp ok h ss]
   |some b=>simp only[ER,Hp ok h ss,Option.map_some,SB.yh]
theorem YU (ok:Nat->Bool):∀l,qe ok l=sY ok l
 |[]=>rfl
 |s::ss=>by
  simp only[qe,sY]
  cases ok s<;>simp[YU ok ss]
theorem PV (ok:Nat->Bool) (env:Nat->SV):∀(l:List Nat) (s:Nat),s∉l->xo ok env l s=.one .bg
 |[],s,_=>rfl
 |a::l,s,h=>by
  simp only[List.mem_cons,not_or] at h
  simp only[xo,cd _ _ _ _ h.1,PV ok env l s h.2]
theorem PW (ok:Nat->Bool) (hp:Nat->Option SB):∀(l:List Nat) (s:Nat),s∉l->tf ok hp l s=none
 |[],s,_=>rfl
 |a::l,s,h=>by
  simp only[List.mem_cons,not_or] at h
  have ih:=PW ok hp l s h.2
  simp only[tf]
  cases ok a with
  |false=>exact ih
  |true=>
   cases hp a with
   |none=>exact ih
   |some b=>simp only[cd _ _ _ _ h.1];exact ih
theorem PX (ok:Nat->Bool):∀(l:List Nat) (s:Nat),s∉l->qe ok l s=false
 |[],s,_=>rfl
 |a::l,s,h=>by
  simp only[List.mem_cons,not_or] at h
  have ih:=PX ok l s h.2
  simp only[qe]
  cases ok a with
  |false=>exact ih
  |true=>simp only[cd _ _ _ _ h.1];exact ih
def SC.uP (n:Nat):SC->Bool
 |.ptr m _ _ _=>Nat.beq m n
 |.sl m _ _ _=>Nat.beq m n
 |.bj m _ _ _ _ _=>Nat.beq m n
 |.cH m _ _ _ _ _=>Nat.beq m n
 |.bD _ _ _ _ m _ _=>Nat.beq m n
 |_=>false
def SC.fU (n:Nat):SC->Bool
 |.fn _ bM=>bM.any (SC.uP n)
 |.ptr m _ _ _=>Nat.beq m n
 |.sl m _ _ _=>Nat.beq m n
 |.bj m _ _ _ _ _=>Nat.beq m n
 |.cH m _ _ _ _ _=>Nat.beq m n
 |.bD _ _ _ _ m _ _=>Nat.beq m n
 |.v _ _=>false
 |.nil _=>false
 |.bV _ _ _=>false
 |.bg=>false
theorem x3 (m n:Nat):(m==n)=Nat.beq m n:=by
 rw[Bool.eq_iff_iff,beq_iff_eq]
 exact⟨fun h=>by rw[h];exact Nat.beq_refl n,Nat.eq_of_beq_eq_true⟩
theorem SC.ajA (n:Nat) (c:SC):c.er.uP n=c.uP n:=by
 cases c<;>simp[SC.er,ae.uP,SC.uP,x3]
theorem SC.GG (n:Nat) (c:SC):c.er.fU n=c.fU n:=by
 cases c with
 |fn f bM=>
  simp only[SC.er,SC.yw,ae.fU,SC.fU,List.any_map]
  congr 1
  funext c
  exact SC.ajA n c
 |ptr m _ _ _=>exact x3 m n
 |sl m _ _ _=>exact x3 m n
 |bj m _ _ _ _ _=>exact x3 m n
 |cH m _ _ _ _ _=>exact x3 m n
 |bD _ _ _ _ m _ _=>exact x3 m n
 |_=>rfl
def SV.fU (n:Nat):SV->Bool
 |.one c=>c.fU n
 |.agg cs=>cs.any (SC.fU n)
 |.aY xs=>xs.any fun x=>x.2.any (SC.fU n)
theorem NP (n:Nat) (cs:List SC):(cs.map SC.er).any (ae.fU n)=cs.any (SC.fU n):=by
 rw[List.any_map]
 congr 1
 funext c
 exact SC.GG n c
theorem SV.GG (n:Nat) (v:SV):v.er.fU n=v.fU n:=by
 cases v with
 |one c=>exact SC.GG n c
 |agg cs=>exact NP n cs
 |aY xs=>
  simp only[SV.er,ai.fU,SV.fU,List.any_map]
  congr 1
  funext x
  exact NP n x.2
def XT (n:Nat):Option SB->Bool
 |some (.box cs)=>cs.any (SC.fU n)
 |_=>false
def EO (n:Nat):List Nat->Bool
 |[]=>false
 |m::l=>match Nat.beq n m with
  |true=>true
  |false=>EO n l
theorem Su (n:Nat):∀l:List Nat,EO n l=l.contains n
 |[]=>rfl
 |m::l=>by
  simp only[EO,List.contains_cons]
  have e:(n==m)=Nat.beq n m:=by cases h:Nat.beq n m with
   |true=>simpa using Nat.eq_of_beq_eq_true h
   |false=>simp;intro h';rw[h',Nat.beq_refl] at h;cases h
  rw[e,Su n l]
  cases Nat.beq n m<;>rfl
def ab.gU (σ:ab) (ke kh:List Nat):Nat->Bool:=fun n=>(σ.h n).isSome&&EO n kh&&(Nat.ble aZ n||ke.any (fun s=>(σ.env s).fU n)||kh.any fun k=>XT n (σ.h k))
theorem ab.aii (σ:ab) (ke kh:List Nat):σ.er.gU ke kh=σ.gU ke kh:=by
 funext n
 simp only[St.gU,ab.gU]
 have h1:(σ.er.h n).isSome=(σ.h n).isSome:=SD σ.h n
 have h2:(fun s=>(σ.er.env s).fU n)=fun s=>(σ.env s).fU n:=by funext s;exact SV.GG n _
 have h3:(fun k=>match σ.er.h k with|some (.box cs)=>cs.any (·.fU n)|_=>false)=fun k=>XT n (σ.h k):=by
  funext k
  have:σ.er.h k=(σ.h k).map SB.er:=rfl
  rw[this]
  cases σ.h k with
  |none=>rfl
  |some b=>cases b with
   |box cs=>exact NP n cs
   |row gr m ts xs=>rfl
 rw[h1,h2,Su,Bool.and_comm (x:=(σ.h n).isSome)]
 exact congrArg (fun g:Nat->Bool=>(kh.contains n&&(σ.h n).isSome&&((Nat.ble aZ n||ke.any fun s=>SV.fU n (σ.env s))||kh.any g))) h3
def ab.gv (σ:ab) (ke kh:List Nat):ab:=
 {env:=xo (σ.gU ke kh) σ.env ke,h:=tf (σ.gU ke kh) σ.h kh,used:=fun n=>Nat.ble aZ n||qe (σ.gU ke kh) kh n}
theorem ab.NV (σ:ab) (ke kh:List Nat):(σ.gv ke kh).er=σ.er.gv ke kh:=by
 simp only[ab.gv,St.gv,ab.aii]
 have e1:=YT (σ.gU ke kh) σ.env ke
 have e2:=Hp (σ.gU ke kh) σ.h kh
 have e3:=YU (σ.gU ke kh) kh
 show St.mk (po (xo (σ.gU ke kh) σ.env ke)) (cB (tf (σ.gU ke kh) σ.h kh)) (fun n=>Nat.ble aZ n||qe (σ.gU ke kh) kh n)=_
 rw[e1,e2,e3]
 rfl
def oO (x c n:Nat):Nat:=match Nat.beq n x with|true=>c|false=>n
theorem Aa (x c n:Nat):oO x c n=kV x c n:=by
 unfold oO kV
 cases h:Nat.beq n x with
 |true=>rw[if_pos (Nat.eq_of_beq_eq_true h)]
 |false=>rw[if_neg (fun e=>by rw[e,Nat.beq_refl] at h;cases h)]
def SC.lM (x c:Nat):SC->SC
 |.ptr n k sz off=>.ptr (oO x c n) k sz off
 |.sl n sz lo len=>.sl (oO x c n) sz lo len
 |.bj n k au off sz len=>.bj (oO x c n) k au off sz len
 |.cH n k au off sz i=>.cH (oO x c n) k au off sz i
 |.bD ts y off j n sz len=>.bD ts y off j (oO x c n) sz len
 |y=>y
def SC.aO (x c:Nat):SC->SC
 |.fn f bM=>.fn f (bM.map (SC.lM x c))
 |.ptr n k sz off=>.ptr (oO x c n) k sz off
 |.sl n sz lo len=>.sl (oO x c n) sz lo len
 |.bj n k au off sz len=>.bj (oO x c n) k au off sz len
 |.cH n k au off sz i=>.cH (oO x c n) k au off sz i
 |.bD ts y off j n sz len=>.bD ts y off j (oO x c n) sz len
 |.v t y=>.v t y
 |.nil ts=>.nil ts
 |.bV ts y off=>.bV ts y off
 |.bg=>.bg
theorem SC.ajE (x c:Nat) (y:SC):(y.lM x c).er=y.er.lM x c:=by
 cases y<;>simp[SC.lM,SC.er,ae.lM,Aa]
theorem SC.uS (x c:Nat) (y:SC):(y.aO x c).er=y.er.aO x c:=by
 cases y with
 |fn f bM=>
  simp only[SC.aO,SC.er,ae.aO,SC.yw,List.map_map]
  congr 1
  exact List.map_congr_left fun y _=>SC.ajE x c y
 |ptr n k sz off=>simp only[SC.aO,SC.er,ae.aO,ae.lM,Aa]
 |sl n sz lo len=>simp only[SC.aO,SC.er,ae.aO,ae.lM,Aa]
 |bj n k au off sz len=>simp only[SC.aO,SC.er,ae.aO,ae.lM,Aa]
 |cH n k au off sz i=>simp only[SC.aO,SC.er,ae.aO,ae.lM,Aa]
 |bD ts y off j n sz len=>simp only[SC.aO,SC.er,ae.aO,ae.lM,Aa]
 |_=>rfl
theorem NT (x c:Nat) (cs:List SC):(cs.map (SC.aO x c)).map SC.er=(cs.map SC.er).map (ae.aO x c):=by
 simp only[List.map_map]
 exact List.map_congr_left fun y _=>SC.uS x c y
def SV.aO (x c:Nat):SV->SV
 |.one y=>.one (y.aO x c)
 |.agg ys=>.agg (ys.map (SC.aO x c))
 |.aY ys=>.aY (ys.map fun y=>(y.1,y.2.map (SC.aO x c)))
theorem SV.uS (x c:Nat) (v:SV):(v.aO x c).er=v.er.aO x c:=by
 cases v with
 |one y=>simp only[SV.aO,SV.er,ai.aO,SC.uS]
 |agg cs=>simp only[SV.aO,SV.er,ai.aO,NT]
 |aY xs=>
  simp only[SV.aO,SV.er,ai.aO,List.map_map]
  congr 1
  exact List.map_congr_left fun y _=>by simp only[Function.comp];rw[NT]
def SB.aO (x c:Nat):SB->SB
 |.box cs=>.box (cs.map (SC.aO x c))
 |.row gr m ts xs=>.row gr m ts xs
theorem SB.uS (x c:Nat) (b:SB):(b.aO x c).er=b.er.aO x c:=by
 cases b with
 |box cs=>simp only[SB.aO,SB.er,ak.aO,NT]
 |row gr m ts xs=>rfl
def ab.aO (σ:ab) (x c:Nat):Option ab:=
  match Nat.beq x c with
  |true=>some σ
  |false=>match Nat.ble aZ x with
   |true=>some σ
   |false=>match σ.used c with
    |true=>none
    |false=>some
     {env:=fun s=>(σ.env s).aO x c
      h:=fun n=>match Nat.beq n c with
        |true=>(σ.h x).map (SB.aO x c)
        |false=>match Nat.beq n x with
         |true=>none
         |false=>(σ.h n).map (SB.aO x c)
      used:=fun n=>match Nat.beq n c with
        |true=>σ.used x
        |false=>match Nat.beq n x with
         |true=>false
         |false=>σ.used n}
theorem uD {m n:Nat} (h:Nat.beq m n=false):m≠n:=fun e=>by rw[e,Nat.beq_refl] at h;cases h
theorem ab.uS {σ σ1:ab} {x c:Nat} (h:σ.aO x c=some σ1):σ.er.aO x c=some σ1.er:=by
 unfold ab.aO at h
 split at h
 ·rename_i e
  injection h with h
  subst h
  simp[St.aO,Nat.eq_of_beq_eq_true e]
 ·rename_i e
  split at h
  ·rename_i hx
   injection h with h
   subst h
   simp only[St.aO,if_neg (uD e),hx,if_true]
  rename_i hx
  split at h
  ·cases h
  ·rename_i hu
   injection h with h
   subst h
   have jD:σ.er.used c=false:=hu
   simp only[St.aO,if_neg (uD e),hx,jD,Bool.false_eq_true,if_false]
   congr 1
   have mm:∀o:Option SB,(o.map (SB.aO x c)).map SB.er=(o.map SB.er).map (·.aO x c):=by
    intro o;cases o with
    |none=>rfl
    |some b=>simp only[Option.map_some,SB.uS]
   have e1:(fun s=>(σ.er.env s).aO x c)=po (fun s=>(σ.env s).aO x c):=by
    funext s;exact(SV.uS x c (σ.env s)).symm
   have e2:(fun n=>if n=c then(σ.er.h x).map (·.aO x c) else if n=x then none else(σ.er.h n).map (·.aO x c))=cB (fun n=>match Nat.beq n c with
     |true=>(σ.h x).map (SB.aO x c)
     |false=>match Nat.beq n x with
      |true=>none
      |false=>(σ.h n).map (SB.aO x c)):=by
    funext n
    simp only[cB]
    cases hc:Nat.beq n c with
    |true=>rw[if_pos (Nat.eq_of_beq_eq_true hc)];exact(mm (σ.h x)).symm
    |false=>
     rw[if_neg (uD hc)]
     cases hx:Nat.beq n x with
     |true=>rw[if_pos (Nat.eq_of_beq_eq_true hx)];rfl
     |false=>rw[if_neg (uD hx)];exact(mm (σ.h n)).symm
   have e3:(fun n=>if n=c then σ.er.used x else if n=x then false else σ.er.used n)=(fun n=>match Nat.beq n c with
     |true=>σ.used x
     |false=>match Nat.beq n x with
      |true=>false
      |false=>σ.used n):=by
    funext n
    cases hc:Nat.beq n c with
    |true=>rw[if_pos (Nat.eq_of_beq_eq_true hc)];rfl
    |false=>
     rw[if_neg (uD hc)]
     cases hx:Nat.beq n x with
     |true=>rw[if_pos (Nat.eq_of_beq_eq_true hx)]
     |false=>rw[if_neg (uD hx)];rfl
   rw[e1,e2,e3]
   rfl
abbrev Cn:=List (Bool×Nat×Nat×Nat×Mode×List Ty)
def Cn.er (cn:Cn):List (Bool×Nat×Nat×Nat×Mode):=cn.map fun x=>(x.1,x.2.1,x.2.2.1,x.2.2.2.1,x.2.2.2.2.1)
def ab.iE (σ:ab) (c:Nat):Mode->ab
 |.aF=>match σ.h c with
  |some (.row gr .aj ts xs)=>σ.df c (.row gr .aF ts xs)
  |_=>σ
 |_=>σ
theorem ab.abe (σ:ab) (c:Nat) (m:Mode):(σ.iE c m).er=σ.er.iE c m:=by
 cases m with
 |live=>rfl
 |aj=>rfl
 |aF=>
  simp only[ab.iE,St.iE]
  have hh:σ.er.h c=(σ.h c).map SB.er:=rfl
  rw[hh]
  cases σ.h c with
  |none=>rfl
  |some b=>cases b with
   |box cs=>rfl
   |row gr m ts xs=>cases m with
    |aj=>simp only[Option.map_some,SB.er,ab.mY]
    |live=>rfl
    |aF=>rfl
def uW (σ:ab):Bool×Nat×Nat×Nat×Mode×List Ty->Option ab
 |(true,n,j,c,m,us)=>match σ.h n with
  |some (.box cs)=>match cs[j]? with
   |some (.sl a _ _ _)=>(σ.aO a c).map fun σ1=>σ1.iE c m
   |some (.nil ts)=>match ts with
    |[]=>some σ
    |t::ts=>match σ.ins c (.row true m (t::ts) []) with
     |some σ1=>some (σ1.df n (.box (cs.set j (.sl c (t::ts).length 0 0))))
     |none=>none
   |_=>some σ
  |_=>some σ
 |(false,n,j,c,m,us)=>match σ.env n with
  |.one (.sl a _ _ _)=>(σ.aO a c).map fun σ1=>σ1.iE c m
  |.one (.nil ts)=>match ts with
   |[]=>some σ
   |t::ts=>match σ.ins c (.row true m (t::ts) []) with
    |some σ1=>some (σ1.put (some n) (.one (.sl c (t::ts).length 0 0)))
    |none=>none
  |_=>some σ
theorem YS {σ σ1:ab} {a c:Nat} {m:Mode} (h:(σ.aO a c).map (fun σ1=>σ1.iE c m)=some σ1):(σ.er.aO a c).map (fun σ1=>σ1.iE c m)=some σ1.er:=by
 rw[Option.map_eq_some_iff] at h
 obtain⟨σ2,e,rfl⟩:=h
 rw[ab.uS e,Option.map_some,ab.abe]
theorem aki {σ σ1:ab} {x:Bool×Nat×Nat×Nat×Mode×List Ty} (h:uW σ x=some σ1):σ.er.canon (x.1,x.2.1,x.2.2.1,x.2.2.2.1,x.2.2.2.2.1)=some σ1.er:=by
 obtain⟨b,n,j,c,m,us⟩:=x
 cases b with
 |true=>
  simp only[uW] at h
  simp only[St.canon]
  have hh:σ.er.h n=(σ.h n).map SB.er:=rfl
  rw[hh]
  split at h
  ·rename_i cs hn
   simp only[hn,Option.map_some,SB.er,List.getElem?_map]
   split at h
   ·rename_i a _ _ _ hj
    simp only[hj,Option.map_some,SC.er]
    exact YS h
   ·rename_i ts hj
    simp only[hj,Option.map_some,SC.er]
    split at h
    ·injection h with h;subst h;rfl
    ·rename_i t ts
     split at h
     ·rename_i σ2 e
      injection h with h
      subst h
      have i:=ab.qF e
      rw[show(SB.row true m (t::ts) []).er=ak.row true m (t::ts).length [] from rfl] at i
      simp only[List.length_cons,Nat.zero_lt_succ,if_true] at i⊢
      rw[i]
      simp only[ab.mY,SB.er,List.map_set,SC.er,List.length_cons]
     ·cases h
   ·rename_i hs hz
    injection h with h
    subst h
    cases hj:cs[j]? with
    |none=>rfl
    |some y=>cases y<;>first|rfl|(exfalso;exact hs _ _ _ _ hj)|(exfalso;exact hz _ hj)
  ·rename_i hb
   injection h with h
   subst h
   cases hn:σ.h n with
   |none=>rfl
   |some b=>cases b with
    |box cs=>exact absurd hn (hb cs)
    |row gr m ts xs=>rfl
 |false=>
  simp only[uW] at h
  simp only[St.canon]
  have hh:σ.er.env n=(σ.env n).er:=rfl
  rw[hh]
  split at h
  ·rename_i a _ _ _ hn
   simp only[hn,SV.er,SC.er]
   exact YS h
  ·rename_i ts hn
   simp only[hn,SV.er,SC.er]
   split at h
   ·injection h with h;subst h;rfl
   ·rename_i t ts
    split at h
    ·rename_i σ2 e
     injection h with h
     subst h
     have i:=ab.qF e
     rw[show(SB.row true m (t::ts) []).er=ak.row true m (t::ts).length [] from rfl] at i
     simp only[List.length_cons,Nat.zero_lt_succ,if_true] at i⊢
     rw[i]
     simp only[ab.cW,SV.er,SC.er,List.length_cons]
    ·cases h
  ·rename_i hs hz
   injection h with h
   subst h
   cases hn:σ.env n with
   |one y=>cases y<;>first|rfl|(exfalso;exact hs _ _ _ _ hn)|(exfalso;exact hz _ hn)
   |_=>rfl
def zT (σ:ab):Cn->Option ab
 |[]=>some σ
 |x::l=>match uW σ x with
  |some σ1=>zT σ1 l
  |none=>none
theorem Yi:∀{cn:Cn} {σ σ1:ab},zT σ cn=some σ1->σ.er.qx cn.er=some σ1.er
 |[],σ,σ1,h=>by simp only[zT] at h;injection h with h;subst h;rfl
 |x::l,σ,σ1,h=>by
  simp only[zT] at h
  split at h
  ·rename_i σ2 e
   have i:=aki e
   have j:=Yi h
   simp only[Cn.er] at j
   simp only[Cn.er,List.map_cons,St.qx,i,j]
  ·cases h
section
variable {ρ:Type}
def uC (n:Nat) (k:Nat->Option ρ):List Nat->Option ρ
 |[]=>k n
 |c::l=>match Nat.beq n c with
  |true=>k c
  |false=>uC n k l
theorem Xd (n:Nat) (k:Nat->Option ρ):∀l,uC n k l=k n
 |[]=>rfl
 |c::l=>by
  simp only[uC]
  split
  ·rename_i e;rw[Nat.eq_of_beq_eq_true e]
  ·exact Xd n k l
def Kf (kh:List Nat) (c:SC) (k:SC->Option ρ):Option ρ:=
 match c with
 |.v t x=>k (.v t x)
 |.nil ts=>k (.nil ts)
 |.ptr n kk sz off=>uC n (fun n=>k (.ptr n kk sz off)) kh
 |.bV ts x off=>k (.bV ts x off)
 |.sl n sz lo len=>uC n (fun n=>k (.sl n sz lo len)) kh
 |.bj n a b c d e=>uC n (fun n=>k (.bj n a b c d e)) kh
 |.cH n a b c d e=>uC n (fun n=>k (.cH n a b c d e)) kh
 |.bD ts x off j n sz len=>uC n (fun n=>k (.bD ts x off j n sz len)) kh
 |.fn f bM=>k (.fn f bM)
 |.bg=>k .bg
theorem Tr (kh:List Nat) (c:SC) (k:SC->Option ρ):Kf kh c k=k c:=by
 cases c<;>first|rfl|exact Xd _ _ _
def Bn (kh:List Nat):List SC->(List SC->Option ρ)->Option ρ
 |[],k=>k []
 |c::cs,k=>Kf kh c fun c=>Bn kh cs fun cs=>k (c::cs)
theorem Kg (kh:List Nat):∀(cs:List SC) (k:List SC->Option ρ),Bn kh cs k=k cs
 |[],k=>rfl
 |c::cs,k=>by simp only[Bn,Tr,Kg kh cs]
def sf (kh:List Nat) (env:Nat->SV):List Nat->(List (Nat×SV)->Option ρ)->Option ρ
 |[],k=>k []
 |s::ss,k=>match env s with
  |.one .bg=>sf kh env ss k
  |.one c=>Kf kh c fun c=>sf kh env ss fun l=>k ((s,.one c)::l)
  |.agg cs=>Bn kh cs fun cs=>sf kh env ss fun l=>k ((s,.agg cs)::l)
  |.aY xs=>sf kh env ss fun l=>k ((s,.aY xs)::l)
def si (kh:List Nat) (h:Nat->Option SB):List Nat->(List (Nat×Option SB)->Option ρ)->Option ρ
 |[],k=>k []
 |n::ns,k=>match h n with
  |none=>si kh h ns k
  |some (.box cs)=>Bn kh cs fun cs=>si kh h ns fun l=>k ((n,some (.box cs))::l)
  |some (.row gr m ts xs)=>si kh h ns fun l=>k ((n,some (.row gr m ts xs))::l)
def vW (u:Nat->Bool):List Nat->(List Nat->Option ρ)->Option ρ
 |[],k=>k []
 |n::ns,k=>match u n with
  |true=>vW u ns fun l=>k (n::l)
  |false=>vW u ns k
def th:List Nat->Nat->Bool
 |[],n=>Nat.ble aZ n
 |m::l,n=>match Nat.beq n m with
  |true=>true
  |false=>th l n
def ab.yA (ke kh:List Nat) (σ:ab) (k:ab->Option ρ):Option ρ:=
 sf kh σ.env ke fun le=>si kh σ.h kh fun lh=>vW σ.used kh fun lu=>k ⟨jX le,iJ lh,th lu⟩
structure gz (ke kh:List Nat) (σ:ab):Prop where
 e:∀s,s∉ke->σ.env s=.one .bg
 h:∀n,n∉kh->σ.h n=none
 u:∀n,n∉kh->σ.used n=Nat.ble aZ n
 p:∀n,σ.used n=false->Nat.ble aZ n=false
theorem Ts (kh:List Nat) (env:Nat->SV):∀(ss:List Nat) (k:List (Nat×SV)->Option ρ),∃l:List (Nat×SV),sf kh env ss k=k l/\∀s,jX l s=if s∈ss then env s else .one .bg
 |[],k=>⟨[],rfl,fun s=>by simp[jX]⟩
 |a::ss,k=>by
  have bU:∀v:SV,env a=v->(∀k':List (Nat×SV)->Option ρ,∃l,sf kh env ss k'=k' l/\∀s,jX l s=if s∈ss then env s else .one .bg)->
    ∃l:List (Nat×SV),sf kh env ss (fun l=>k ((a,v)::l))=k l/\∀s,jX l s=if s∈a::ss then env s else .one .bg:=by
   intro v hv ih
   obtain⟨l,h1,h2⟩:=ih fun l=>k ((a,v)::l)
   refine⟨(a,v)::l,h1,fun s=>?_⟩
   simp only[jX,ik]
   split
   ·rename_i e
    subst e
    rw[if_pos (by simp)]
    exact hv.symm
   ·rename_i av
    rw[h2 s]
    by_cases hs:s∈ss
    ·rw[if_pos hs,if_pos (by simp[hs])]
    ·rw[if_neg hs,if_neg (by simp[hs,av])]
  have ih:=fun k':List (Nat×SV)->Option ρ=>Ts kh env ss k'
  simp only[sf]
  split
  ·rename_i hv
   obtain⟨l,h1,h2⟩:=ih k
   refine⟨l,h1,fun s=>?_⟩
   rw[h2 s]
   by_cases hs:s∈ss
   ·rw[if_pos hs,if_pos (by simp[hs])]
   ·rw[if_neg hs]
    by_cases t9:s=a
    ·subst t9;rw[if_pos (by simp),hv]
    ·rw[if_neg (by simp[hs,t9])]
  ·rename_i c hc hv
   rw[Tr]
   exact bU _ hv ih
  ·rename_i cs hv
   rw[Kg]
   exact bU _ hv ih
  ·rename_i xs hv
   exact bU _ hv ih
theorem Tt (kh:List Nat) (h:Nat->Option SB):∀(ns:List Nat) (k:List (Nat×Option SB)->Option ρ),∃l:List (Nat×Option SB),si kh h ns k=k l/\∀n,iJ l n=if n∈ns then h n else none
 |[],k=>⟨[],rfl,fun s=>by simp[iJ]⟩
 |a::ns,k=>by
  have bU:∀v:Option SB,h a=v->(∀k':List (Nat×Option SB)->Option ρ,∃l,si kh h ns k'=k' l/\∀s,iJ l s=if s∈ns then h s else none)->
    ∃l:List (Nat×Option SB),si kh h ns (fun l=>k ((a,v)::l))=k l/\∀s,iJ l s=if s∈a::ns then h s else none:=by
   intro v hv ih
   obtain⟨l,h1,h2⟩:=ih fun l=>k ((a,v)::l)
   refine⟨(a,v)::l,h1,fun s=>?_⟩
   simp only[iJ,ik]
   split
   ·rename_i e
    subst e
    rw[if_pos (by simp)]
    exact hv.symm
   ·rename_i av
    rw[h2 s]
    by_cases hs:s∈ns
    ·rw[if_pos hs,if_pos (by simp[hs])]
    ·rw[if_neg hs,if_neg (by simp[hs,av])]
  have ih:=fun k':List (Nat×Option SB)->Option ρ=>Tt kh h ns k'
  simp only[si]
  split
  ·rename_i hv
   obtain⟨l,h1,h2⟩:=ih k
   refine⟨l,h1,fun s=>?_⟩
   rw[h2 s]
   by_cases hs:s∈ns
   ·rw[if_pos hs,if_pos (by simp[hs])]
   ·rw[if_neg hs]
    by_cases t9:s=a
    ·subst t9;rw[if_pos (by simp),hv]
    ·rw[if_neg (by simp[hs,t9])]
  ·rename_i cs hv
   rw[Kg]
   exact bU _ hv ih
  ·rename_i gr m ts xs hv
   exact bU _ hv ih
theorem Kh (u:Nat->Bool) (hp:∀n,u n=false->Nat.ble aZ n=false):∀(ns:List Nat) (k:List Nat->Option ρ),∃l:List Nat,vW u ns k=k l/\∀n,th l n=if n∈ns then u n else Nat.ble aZ n
 |[],k=>⟨[],rfl,fun s=>by simp[th]⟩
 |a::ns,k=>by
  simp only[vW]
  split
  ·rename_i hv
   obtain⟨l,h1,h2⟩:=Kh u hp ns fun l=>k (a::l)
   refine⟨a::l,h1,fun s=>?_⟩
   simp only[th]
   split
   ·rename_i e
    have:=Nat.eq_of_beq_eq_true e
    subst this
    rw[if_pos (by simp)]
    exact hv.symm
   ·rename_i e
    have av:=uD e
    rw[h2 s]
    by_cases hs:s∈ns
    ·rw[if_pos hs,if_pos (by simp[hs])]
    ·rw[if_neg hs,if_neg (by simp[hs,av])]
  ·rename_i hv
   obtain⟨l,h1,h2⟩:=Kh u hp ns k
   refine⟨l,h1,fun s=>?_⟩
   rw[h2 s]
   by_cases hs:s∈ns
   ·rw[if_pos hs,if_pos (by simp[hs])]
   ·rw[if_neg hs]
    by_cases t9:s=a
    ·subst t9;rw[if_pos (by simp),hv,hp _ hv]
    ·rw[if_neg (by simp[hs,t9])]
theorem E9 {ke kh:List Nat} {σ:ab} (W:gz ke kh σ) (k:ab->Option ρ):σ.yA ke kh k=k σ:=by
 unfold ab.yA
 obtain⟨le,e1,e2⟩:=Ts kh σ.env ke fun le=>si kh σ.h kh fun lh=>vW σ.used kh fun lu=>k ⟨jX le,iJ lh,th lu⟩
 rw[e1]
 obtain⟨lh,h1,h2⟩:=Tt kh σ.h kh fun lh=>vW σ.used kh fun lu=>k ⟨jX le,iJ lh,th lu⟩
 rw[h1]
 obtain⟨lu,u1,u2⟩:=Kh σ.used W.p kh fun lu=>k ⟨jX le,iJ lh,th lu⟩
 rw[u1]
 have a1:jX le=σ.env:=by
  funext s
  rw[e2 s]
  split
  ·rfl
  ·rename_i hs;exact(W.e s hs).symm
 have a2:iJ lh=σ.h:=by
  funext s
  rw[h2 s]
  split
  ·rfl
  ·rename_i hs;exact(W.h s hs).symm
 have a3:th lu=σ.used:=by
  funext s
  rw[u2 s]
  split
  ·rfl
  ·rename_i hs;exact(W.u s hs).symm
 rw[a1,a2,a3]
theorem gz.gv (ke kh:List Nat) (σ:ab):gz ke kh (σ.gv ke kh):=
 ⟨fun s hs=>PV _ _ _ s hs,fun n hn=>PW _ _ _ n hn,fun n hn=>by show(Nat.ble aZ n||qe _ _ n)=_;rw[PX _ _ n hn,Bool.or_false],
  fun n hn=>by have bC:(Nat.ble aZ n||qe _ _ n)=false:=hn;simp only[Bool.or_eq_false_iff] at bC;exact bC.1⟩
theorem gz.aO {ke kh:List Nat} {σ σ1:ab} {a c:Nat} (W:gz ke kh σ) (hc:c∈kh) (h:σ.aO a c=some σ1):gz ke kh σ1:=by
 unfold ab.aO at h
 split at h
 ·injection h with h;subst h;exact W
 ·split at h
  ·injection h with h;subst h;exact W
  ·rename_i yS
   split at h
   ·cases h
   ·rename_i FB
    injection h with h
    subst h
    refine⟨fun s hs=>?_,fun n hn=>?_,fun n hn=>?_,fun n hn=>?_⟩
    ·show(σ.env s).aO a c=_
     rw[W.e s hs];rfl
    ·simp only
     split
     ·rename_i e;exact absurd (by rw[Nat.eq_of_beq_eq_true e];exact hc) hn
     ·split
      ·rfl
      ·rw[W.h n hn];rfl
    ·simp only
     split
     ·rename_i e;exact absurd (by rw[Nat.eq_of_beq_eq_true e];exact hc) hn
     ·split
      ·rename_i e;rw[Nat.eq_of_beq_eq_true e,yS]
      ·exact W.u n hn
    ·simp only at hn
     split at hn
     ·rename_i e;rw[Nat.eq_of_beq_eq_true e];exact W.p c FB
     ·split at hn
      ·rename_i e;rw[Nat.eq_of_beq_eq_true e,yS]
      ·exact W.p n hn
theorem gz.ins {ke kh:List Nat} {σ σ1:ab} {c:Nat} {b:SB} (W:gz ke kh σ) (hc:c∈kh) (h:σ.ins c b=some σ1):gz ke kh σ1:=by
 unfold ab.ins at h
 split at h
 ·cases h
 ·rename_i FB
  injection h with h
  subst h
  refine⟨W.e,fun n hn=>?_,fun n hn=>?_,fun n hn=>?_⟩
  ·show aq σ.h c _ n=_
   rw[cd _ _ _ _ (fun e=>hn (by rw[e];exact hc))];exact W.h n hn
  ·show aq σ.used c _ n=_
   rw[cd _ _ _ _ (fun e=>hn (by rw[e];exact hc))];exact W.u n hn
  ·have bC:aq σ.used c true n=false:=hn
   by_cases e:n=c
   ·subst e;rw[bu] at bC;cases bC
   ·rw[cd _ _ _ _ e] at bC;exact W.p n bC
theorem gz.iE {ke kh:List Nat} {σ:ab} (W:gz ke kh σ) (c:Nat) (m:Mode):gz ke kh (σ.iE c m):=by
 cases m with
 |live=>exact W
 |aj=>exact W
 |aF=>
  simp only[ab.iE]
  split
  ·rename_i gr ts xs hn
   exact⟨W.e,fun n hk=>by
    show aq σ.h c _ n=none
    have tY:n≠c:=fun e=>by subst e;rw[W.h n hk] at hn;cases hn
    rw[cd _ _ _ _ tY];exact W.h n hk,W.u,W.p⟩
  ·exact W
theorem gz.CJ {ke kh:List Nat} {σ σ1:ab} {a c:Nat} {m:Mode} (W:gz ke kh σ) (hc:c∈kh) (h:(σ.aO a c).map (fun σ1=>σ1.iE c m)=some σ1):gz ke kh σ1:=by
 rw[Option.map_eq_some_iff] at h
 obtain⟨σ2,e,rfl⟩:=h
 exact(W.aO hc e).iE c m
theorem gz.canon {ke kh:List Nat} {σ σ1:ab} {x:Bool×Nat×Nat×Nat×Mode×List Ty} (W:gz ke kh σ) (hc:x.2.2.2.1∈kh) (h:uW σ x=some σ1):gz ke kh σ1:=by
 obtain⟨b,n,j,c,m,us⟩:=x
 simp only at hc
 have fA:some σ=some σ1->gz ke kh σ1:=fun h=>by injection h with h;subst h;exact W
 cases b with
 |true=>
  simp only[uW] at h
  split at h
  ·rename_i cs hn
   split at h
   ·exact W.CJ hc h
   ·split at h
    ·exact fA h
    ·split at h
     ·rename_i σ2 e
      injection h with h
      subst h
      have W2:=W.ins hc e
      have KW:n∈kh:=by
       rcases Decidable.em (n∈kh) with h|h
       ·exact h
       ·rw[W.h n h] at hn;cases hn
      exact⟨W2.e,fun q hq=>by show aq σ2.h n _ q=_;rw[cd _ _ _ _ (fun e=>hq (by rw[e];exact KW))];exact W2.h q hq,W2.u,W2.p⟩
     ·cases h
   ·exact fA h
  ·exact fA h
 |false=>
  simp only[uW] at h
  split at h
  ·exact W.CJ hc h
  ·rename_i ts hn
   split at h
   ·exact fA h
   ·split at h
    ·rename_i σ2 e
     injection h with h
     subst h
     have W2:=W.ins hc e
     have KW:n∈ke:=by
      rcases Decidable.em (n∈ke) with h|h
      ·exact h
      ·rw[W.e n h] at hn;cases hn
     exact⟨fun q hq=>by show aq σ2.env n _ q=_;rw[cd _ _ _ _ (fun e=>hq (by rw[e];exact KW))];exact W2.e q hq,W2.h,W2.u,W2.p⟩
    ·cases h
  ·exact fA h
def GU (ke kh:List Nat):Cn->ab->(ab->Option ρ)->Option ρ
 |[],σ,k=>k σ
 |x::l,σ,k=>match uW σ x with
  |some σ1=>match List.elem x.2.2.2.1 kh with
   |true=>σ1.yA ke kh fun σ2=>GU ke kh l σ2 k
   |false=>none
  |none=>none
theorem Yh {ke kh:List Nat}:∀{cn:Cn} {σ:ab} {k:ab->Option ρ} {r:ρ},gz ke kh σ->GU ke kh cn σ k=some r->∃σ1,zT σ cn=some σ1/\k σ1=some r
 |[],σ,k,r,W,h=>⟨σ,rfl,h⟩
 |x::l,σ,k,r,W,h=>by
  simp only[GU] at h
  split at h
  ·rename_i σ1 e
   split at h
   ·rename_i hm
    have W1:=W.canon (by simpa using hm) e
    rw[E9 W1] at h
    obtain⟨σ2,h1,h2⟩:=Yh W1 h
    exact⟨σ2,by simp only[zT,e,h1],h2⟩
   ·cases h
  ·cases h
def zV (sh:ir) (kh:List Nat) (cn:Cn) (σ:ab) (k:sh.L.D->Option ρ):Option ρ:=
 (σ.gv sh.ke kh).yA sh.ke kh fun σ1=>(σ1.gv sh.ke kh).yA sh.ke kh fun σ2=>GU sh.ke kh cn σ2 fun fm=>(fm.gv sh.ke kh).yA sh.ke kh fun σ4=>sh.flat kh σ4 k
theorem GZ {sh:ir} {kh:List Nat} {cn:Cn} {σ:ab} {k:sh.L.D->Option ρ} {r:ρ} (h:zV sh kh cn σ k=some r):
  ∃x,σ.er.head sh.ke kh cn.er=some (sh.un x).er/\k x=some r:=by
 unfold zV at h
 rw[E9 (gz.gv _ _ _),E9 (gz.gv _ _ _)] at h
 obtain⟨σ1,e,h⟩:=Yh (gz.gv _ _ _) h
 rw[E9 (gz.gv _ _ _)] at h
 obtain⟨x,h1,h2⟩:=ir.m6 h (fun s hs=>PV _ _ _ s hs) (fun n hn=>⟨PW _ _ _ n hn,by show(Nat.ble aZ n||qe _ _ n)=_;rw[PX _ _ n hn,Bool.or_false]⟩)
 have i:=Yi e
 rw[ab.NV,ab.NV] at i
 exact⟨x,by simp only[St.head,i,<-h1,ab.NV],h2⟩
end
inductive cg where
 |skip
 |af (pi:Bool) (ops:List eJ)
 |sV (ps:List (Nat×Nat)) (ops:List eJ)
 |seq (a b:cg)
 |cond (c:bZ) (a b:cg)
 |block (id:Nat) (c:cg)
 |join (sh:ir) (kh:List Nat) (cn:Cn) (c:cg)
 |loop (id:Nat) (sh:ir) (kh:List Nat) (cn:Cn) (c:cg)
 |exit (id:Nat)
 |ret
def cg.er:cg->ld
 |.skip=>.skip
 |.af d ops=>.af d (ops.map eJ.er)
 |.sV ps ops=>.sV ps (ops.map eJ.er)
 |.seq a b=>.seq a.er b.er
 |.cond c a b=>.cond c.er a.er b.er
 |.block id c=>.block id c.er
 |.join sh kh cn c=>.join sh.ke kh cn.er c.er
 |.loop id sh kh cn c=>.loop id sh.ke kh cn.er c.er
 |.exit id=>.exit id
 |.ret=>.ret
def ab.Ms (σ:ab) (c:bZ) (b:Bool):ab:=
 match c with
 |.t n=>σ.lit n b
 |.k _=>σ
def uo {X ρ:Type} (o:Option ρ):Option (X⊕ρ):=o.ah fun r=>some (.inr r)
theorem y9 {X ρ:Type} {o:Option ρ} {s:X⊕ρ} (h:uo o=some s):∃r,o=some r/\s=.inr r:=by
 unfold uo at h
 rw[dF] at h
 obtain⟨r,h1,h2⟩:=h
 injection h2 with h2
 exact⟨r,h1,h2.symm⟩
def km (N:Nat) (T:List ar):cg->{ρ:Type}->ab->(ab->Option ρ)->(Nat->ab->Option ρ)->(ab->Option ρ)->Option ρ
 |.skip,_,σ,k,_,_=>k σ
 |.af _ ops,_,σ,k,_,_=>oM T ops σ k
 |.sV ps ops,_,σ,k,_,_=>oN T ps ops [] σ k
 |.seq a b,_,σ,k,ex,kr=>km N T a σ (fun σ1=>km N T b σ1 k ex kr) ex kr
 |.cond c a b,_,σ,k,ex,kr=>match σ.ev c with
  |.one (.v .bool t)=>aH t (km N T a (σ.Ms c true) k ex kr) (km N T b (σ.Ms c false) k ex kr)
  |_=>none
 |.block id c,_,σ,k,ex,kr=>km N T c σ k (fun i σ1=>match Nat.beq i id with|true=>k σ1|false=>ex i σ1) kr
 |.join sh kh cn c,ρ,σ,k,ex,kr=>
  cJ (km N T c (ρ:=sh.L.D⊕ρ) σ (fun σ1=>zV sh kh cn σ1 fun x=>some (.inl x)) (fun i σ1=>uo (ex i σ1)) (fun σ1=>uo (kr σ1))) fun x=>k (sh.un x)
 |.loop id sh kh cn c,ρ,σ,k,ex,kr=>
  zV sh kh cn σ fun x0=>cv N (fun x=>km N T c (ρ:=sh.L.D⊕ρ) (sh.un x) (fun σ1=>zV sh kh cn σ1 fun x'=>some (.inl x')) (fun i σ1=>uo (ex i σ1)) (fun σ1=>uo (kr σ1))) x0
 |.exit id,_,σ,_,ex,_=>ex id σ
 |.ret,_,σ,_,_,kr=>kr σ
def QN {ρ:Type} (k:ab->Option ρ) (ex:Nat->ab->Option ρ) (kr:ab->Option ρ) (r:ρ):qu->Prop
 |.fx τ=>∃ek:ab,τ=ek.er/\k ek=some r
 |.ext i τ=>∃ek:ab,τ=ek.er/\ex i ek=some r
 |.ret τ=>∃ek:ab,τ=ek.er/\kr ek=some r
theorem WL {σ:ab} {c:bZ} {b:Bool} (h:σ.ev c=.one (.v .bool b)):(σ.Ms c b).er=σ.er:=by
 cases c with
 |t n=>exact ab.Bf h
 |k v=>rfl
theorem rB {T:List ar}:∀(m:cg) {ρ:Type} {σ:ab} {k:ab->Option ρ} {ex:Nat->ab->Option ρ} {kr:ab->Option ρ} {r:ρ},km bh T m σ k ex kr=some r->
    ∃o:qu,dH (cb T) m.er σ.er=some o/\QN k ex kr r o
  |.skip,ρ,σ,k,ex,kr,r,h=>⟨.fx σ.er,rfl,σ,rfl,h⟩
  |.af d ops,ρ,σ,k,ex,kr,r,h=>by
   obtain⟨σ1,h1,h2⟩:=PG (h:oM T ops σ k=some r)
   exact⟨.fx σ1.er,by simp only[cg.er,dH,h1],σ1,rfl,h2⟩
  |.sV ps ops,ρ,σ,k,ex,kr,r,h=>by
   obtain⟨σ1,fs,h1,h2,h3⟩:=PF (h:oN T ps ops [] σ k=some r)
   exact⟨.fx σ1.er,by simp only[cg.er,dH,h1,h2,cond_true],σ1,rfl,h3⟩
  |.seq a b,ρ,σ,k,ex,kr,r,h=>by
   obtain⟨o,h1,h2⟩:=rB a (h:km bh T a σ (fun σ1=>km bh T b σ1 k ex kr) ex kr=some r)
   cases o with
   |fx τ=>
    obtain⟨ek,rfl,h2⟩:=h2
    obtain⟨o2,h3,h4⟩:=rB b h2
    exact⟨o2,by simp only[cg.er,dH,h1,h3],h4⟩
   |ext i τ=>exact⟨.ext i τ,by simp only[cg.er,dH,h1],h2⟩
   |ret τ=>exact⟨.ret τ,by simp only[cg.er,dH,h1],h2⟩
  |.cond c a b,ρ,σ,k,ex,kr,r,h=>by
   simp only[km] at h
   split at h
   · rename_i t hc
     have cN:σ.er.ev c.er=.one (.c (.bool t)):=by rw[ab.cY,hc];rfl
     cases ht:(t:Bool) with
     |true=>
      rw[ht] at h
      simp only[Jb] at h
      obtain⟨o,h1,h2⟩:=rB a h
      rw[WL (by rw[hc,ht])] at h1
      exact⟨o,by simp only[cg.er,dH,cN,ht,if_true,h1],h2⟩
     |false=>
      rw[ht] at h
      simp only[EA] at h
      obtain⟨o,h1,h2⟩:=rB b h
      rw[WL (by rw[hc,ht])] at h1
      exact⟨o,by simp only[cg.er,dH,cN,ht,Bool.false_eq_true,if_false,h1],h2⟩
   · cases h
  |.block id c,ρ,σ,k,ex,kr,r,h=>by
   obtain⟨o,h1,h2⟩:=rB c (h:km bh T c σ k (fun i σ1=>match Nat.beq i id with|true=>k σ1|false=>ex i σ1) kr=some r)
   cases o with
   |fx τ=>exact⟨.fx τ,by simp only[cg.er,dH,h1],h2⟩
   |ret τ=>exact⟨.ret τ,by simp only[cg.er,dH,h1],h2⟩
   |ext i τ=>
    obtain⟨ek,rfl,h2⟩:=h2
    simp only at h2
    split at h2
    · rename_i e
      exact⟨.fx ek.er,by simp only[cg.er,dH,h1,if_pos (Nat.eq_of_beq_eq_true e)],ek,rfl,h2⟩
    · rename_i e
      exact⟨.ext i ek.er,by simp only[cg.er,dH,h1,if_neg (uD e)],ek,rfl,h2⟩
  |.join sh kh cn c,ρ,σ,k,ex,kr,r,h=>by
   simp only[km,cJ,Option.bind_eq_some_iff] at h
   obtain⟨s,hs,h⟩:=h
   obtain⟨o,h1,h2⟩:=rB c hs
   cases o with
   |fx τ=>
    obtain⟨ek,rfl,h2⟩:=h2
    obtain⟨x,h3,h4⟩:=GZ h2
    injection h4 with h4
    subst h4
    exact⟨.fx (sh.un x).er,by simp only[cg.er,dH,h1,h3],sh.un x,rfl,h⟩
   |ext i τ=>
    obtain⟨ek,rfl,h2⟩:=h2
    obtain⟨y,h3,rfl⟩:=y9 h2
    injection h with h
    subst h
    exact⟨.ext i ek.er,by simp only[cg.er,dH,h1],ek,rfl,h3⟩
   |ret τ=>
    obtain⟨ek,rfl,h2⟩:=h2
    obtain⟨y,h3,rfl⟩:=y9 h2
    injection h with h
    subst h
    exact⟨.ret ek.er,by simp only[cg.er,dH,h1],ek,rfl,h3⟩
  |.loop id sh kh cn c,ρ,σ,k,ex,kr,r,h=>by
   simp only[km] at h
   obtain⟨x0,h0,h⟩:=GZ h
   simp only[cg.er,dH]
   have bU:∀(n:Nat) (x0:sh.L.D) (HP:St),HP.head sh.ke kh cn.er=some (sh.un x0).er->
       cv n (fun x=>km bh T c (ρ:=sh.L.D⊕ρ) (sh.un x) (fun σ1=>zV sh kh cn σ1 fun x'=>some (.inl x')) (fun i σ1=>uo (ex i σ1)) (fun σ1=>uo (kr σ1))) x0=some r->
       ∃o:qu,zw n (fun σ=>match σ.head sh.ke kh cn.er with|some σ1=>dH (cb T) c.er σ1|none=>none) HP=some o/\QN k ex kr r o:=by
    intro n
    induction n with
    |zero=>intro x0 HP h0 h;simp[cv] at h
    |succ n ih=>
     intro x0 HP h0 h
     simp only[cv] at h
     simp only[zw,h0]
     split at h
     · rename_i x' hb
       obtain⟨o,h1,h2⟩:=rB c hb
       cases o with
       |fx τ=>
        obtain⟨ek,rfl,h2⟩:=h2
        obtain⟨x2,h3,h4⟩:=GZ h2
        injection h4 with h4
        injection h4 with h4
        subst h4
        simp only[h1]
        exact ih x2 _ h3 h
       |ext i τ=>
        obtain⟨ek,rfl,h2⟩:=h2
        obtain⟨y,_,e⟩:=y9 h2
        cases e
       |ret τ=>
        obtain⟨ek,rfl,h2⟩:=h2
        obtain⟨y,_,e⟩:=y9 h2
        cases e
     · rename_i y hb
       injection h with h
       subst h
       obtain⟨o,h1,h2⟩:=rB c hb
       cases o with
       |fx τ=>
        obtain⟨ek,rfl,h2⟩:=h2
        obtain⟨x2,h3,h4⟩:=GZ h2
        injection h4 with h4
        cases h4
       |ext i τ=>
        obtain⟨ek,rfl,h2⟩:=h2
        obtain⟨y',h3,e⟩:=y9 h2
        injection e with e
        subst e
        exact⟨.ext i ek.er,by simp only[h1],ek,rfl,h3⟩
       |ret τ=>
        obtain⟨ek,rfl,h2⟩:=h2
        obtain⟨y',h3,e⟩:=y9 h2
        injection e with e
        subst e
        exact⟨.ret ek.er,by simp only[h1],ek,rfl,h3⟩
     · cases h
   exact bU bh x0 σ.er h0 h
  |.exit id,ρ,σ,k,ex,kr,r,h=>⟨.ext id σ.er,rfl,σ,rfl,h⟩
  |.ret,ρ,σ,k,ex,kr,r,h=>⟨.ret σ.er,rfl,σ,rfl,h⟩
end Go.Am
