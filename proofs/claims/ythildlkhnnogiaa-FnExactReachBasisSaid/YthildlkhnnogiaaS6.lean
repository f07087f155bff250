/- S6: heads and code of the typed evaluator. No condition. -/
import Derived.Test.YthildlkhnnogiaaS5
set_option linter.unusedVariables false
set_option linter.unusedSimpArgs false
namespace Go.Am
def SC.eA (ok:Nat->Bool):SC->SC
 |.ptr n k sz off=>match ok n with|true=>.ptr n k sz off|false=>.aX
 |.sl n sz lo len=>match ok n with|true=>.sl n sz lo len|false=>.aX
 |.bf n k au off sz len=>match ok n with|true=>.bf n k au off sz len|false=>.aX
 |.bX n k au off sz i=>match ok n with|true=>.bX n k au off sz i|false=>.aX
 |.bK ts x off j n sz len=>match ok n with|true=>.bK ts x off j n sz len|false=>.aX
 |x=>x
def SC.cE (ok:Nat->Bool):SC->SC
 |.fn f bI=>.fn f (bI.map (SC.eA ok))
 |.v t x=>.v t x
 |.nil ts=>.nil ts
 |.ptr n k sz off=>SC.eA ok (.ptr n k sz off)
 |.cd ts x off=>.cd ts x off
 |.sl n sz lo len=>SC.eA ok (.sl n sz lo len)
 |.bf n k au off sz len=>SC.eA ok (.bf n k au off sz len)
 |.bX n k au off sz i=>SC.eA ok (.bX n k au off sz i)
 |.bK ts x off j n sz len=>SC.eA ok (.bK ts x off j n sz len)
 |.aX=>.aX
theorem SC.Bk (ok:Nat->Bool) (c:SC):(c.eA ok).er=c.er.eA ok:=by
 cases c with
 |ptr n k sz off=>simp only[SC.eA,SC.er,ab.eA];cases ok n<;>rfl
 |sl n sz lo len=>simp only[SC.eA,SC.er,ab.eA];cases ok n<;>rfl
 |bf n k au off sz len=>simp only[SC.eA,SC.er,ab.eA];cases ok n<;>rfl
 |bX n k au off sz i=>simp only[SC.eA,SC.er,ab.eA];cases ok n<;>rfl
 |bK ts x off j n sz len=>simp only[SC.eA,SC.er,ab.eA];cases ok n<;>rfl
 |_=>rfl
theorem SC.Bl (ok:Nat->Bool) (c:SC):(c.cE ok).er=c.er.cE ok:=by
 cases c with
 |fn f bI=>
  simp only[SC.cE,SC.er,ab.cE,SC.y5,List.map_map]
  congr 1
  exact List.map_congr_left fun c _=>SC.Bk ok c
 |ptr n k sz off=>exact SC.Bk ok (.ptr n k sz off)
 |sl n sz lo len=>exact SC.Bk ok (.sl n sz lo len)
 |bf n k au off sz len=>exact SC.Bk ok (.bf n k au off sz len)
 |bX n k au off sz i=>exact SC.Bk ok (.bX n k au off sz i)
 |bK ts x off j n sz len=>exact SC.Bk ok (.bK ts x off j n sz len)
 |_=>rfl
def SV.cE (ok:Nat->Bool):SV->SV
 |.one c=>.one (c.cE ok)
 |.agg cs=>.agg (cs.map (SC.cE ok))
 |.bk xs=>.bk (xs.map fun x=>(x.1,x.2.map (SC.cE ok)))
theorem Mt (ok:Nat->Bool) (cs:List SC):(cs.map (SC.cE ok)).map SC.er=(cs.map SC.er).map (ab.cE ok):=by
 simp only[List.map_map]
 exact List.map_congr_left fun c _=>SC.Bl ok c
theorem SV.Bl (ok:Nat->Bool) (v:SV):(v.cE ok).er=v.er.cE ok:=by
 cases v with
 |one c=>simp only[SV.cE,SV.er,ah.cE,SC.Bl]
 |agg cs=>simp only[SV.cE,SV.er,ah.cE,Mt]
 |bk xs=>
  simp only[SV.cE,SV.er,ah.cE,List.map_map]
  congr 1
  exact List.map_congr_left fun x _=>by simp only[Function.comp];rw[Mt]
def SB.cE (ok:Nat->Bool):SB->SB
 |.box cs=>.box (cs.map (SC.cE ok))
 |.row gr m ts xs=>.row gr m ts xs
theorem SB.Bl (ok:Nat->Bool) (b:SB):(b.cE ok).er=b.er.cE ok:=by
 cases b with
 |box cs=>simp only[SB.cE,SB.er,aj.cE,Mt]
 |row gr m ts xs=>rfl
def Ai (ok:Nat->Bool) (env:Nat->SV):List Nat->(Nat->SV)
 |[]=>fun _=>.one .aX
 |s::ss=>ao (Ai ok env ss) s ((env s).cE ok)
def wi (ok:Nat->Bool) (h:Nat->Option SB):List Nat->(Nat->Option SB)
 |[]=>fun _=>none
 |s::ss=>match ok s with
  |true=>match h s with
   |some b=>ao (wi ok h ss) s (some (b.cE ok))
   |none=>wi ok h ss
  |false=>wi ok h ss
def sC (ok:Nat->Bool):List Nat->(Nat->Bool)
 |[]=>fun _=>false
 |s::ss=>match ok s with
  |true=>ao (sC ok ss) s true
  |false=>sC ok ss
theorem aa3 (ok:Nat->Bool) (env:Nat->SV):∀l,qw (Ai ok env l)=vY ok (qw env) l
 |[]=>rfl
 |s::ss=>by simp only[Ai,vY,uO,aa3 ok env ss,SV.Bl];rfl
theorem KF (ok:Nat->Bool) (h:Nat->Option SB):∀l,cf (wi ok h l)=rf ok (cf h) l
 |[]=>rfl
 |s::ss=>by
  simp only[wi,rf]
  cases ok s with
  |false=>simp only[KF ok h ss,Bool.false_eq_true,if_false]
  |true=>
   have:cf h s=(h s).map SB.er:=rfl
   simp only[if_true,this]
   cases h s with
   |none=>simp only[Option.map_none,KF ok h ss]
   |some b=>simp only[Ix,KF ok h ss,Option.map_some,SB.Bl]
theorem aa4 (ok:Nat->Bool):∀l,sC ok l=vZ ok l
 |[]=>rfl
 |s::ss=>by
  simp only[sC,vZ]
  cases ok s<;>simp[aa4 ok ss]
theorem T7 (ok:Nat->Bool) (env:Nat->SV):∀(l:List Nat) (s:Nat),s∉l->Ai ok env l s=.one .aX
 |[],s,_=>rfl
 |a::l,s,h=>by
  simp only[List.mem_cons,not_or] at h
  simp only[Ai,bP _ _ _ _ h.1,T7 ok env l s h.2]
theorem T8 (ok:Nat->Bool) (hp:Nat->Option SB):∀(l:List Nat) (s:Nat),s∉l->wi ok hp l s=none
 |[],s,_=>rfl
 |a::l,s,h=>by
  simp only[List.mem_cons,not_or] at h
  have ih:=T8 ok hp l s h.2
  simp only[wi]
  cases ok a with
  |false=>exact ih
  |true=>
   cases hp a with
   |none=>exact ih
   |some b=>simp only[bP _ _ _ _ h.1];exact ih
theorem T9 (ok:Nat->Bool):∀(l:List Nat) (s:Nat),s∉l->sC ok l s=false
 |[],s,_=>rfl
 |a::l,s,h=>by
  simp only[List.mem_cons,not_or] at h
  have ih:=T9 ok l s h.2
  simp only[sC]
  cases ok a with
  |false=>exact ih
  |true=>simp only[bP _ _ _ _ h.1];exact ih
def SC.xY (n:Nat):SC->Bool
 |.ptr m _ _ _=>Nat.beq m n
 |.sl m _ _ _=>Nat.beq m n
 |.bf m _ _ _ _ _=>Nat.beq m n
 |.bX m _ _ _ _ _=>Nat.beq m n
 |.bK _ _ _ _ m _ _=>Nat.beq m n
 |_=>false
def SC.gD (n:Nat):SC->Bool
 |.fn _ bI=>bI.any (SC.xY n)
 |.ptr m _ _ _=>Nat.beq m n
 |.sl m _ _ _=>Nat.beq m n
 |.bf m _ _ _ _ _=>Nat.beq m n
 |.bX m _ _ _ _ _=>Nat.beq m n
 |.bK _ _ _ _ m _ _=>Nat.beq m n
 |.v _ _=>false
 |.nil _=>false
 |.cd _ _ _=>false
 |.aX=>false
theorem A9 (m n:Nat):(m==n)=Nat.beq m n:=by
 rw[Bool.eq_iff_iff,beq_iff_eq]
 exact⟨fun h=>by rw[h];exact Nat.beq_refl n,Nat.eq_of_beq_eq_true⟩
theorem SC.ak1 (n:Nat) (c:SC):c.er.xY n=c.xY n:=by
 cases c<;>simp[SC.er,ab.xY,SC.xY,A9]
theorem SC.J9 (n:Nat) (c:SC):c.er.gD n=c.gD n:=by
 cases c with
 |fn f bI=>
  simp only[SC.er,SC.y5,ab.gD,SC.gD,List.any_map]
  congr 1
  funext c
  exact SC.ak1 n c
 |ptr m _ _ _=>exact A9 m n
 |sl m _ _ _=>exact A9 m n
 |bf m _ _ _ _ _=>exact A9 m n
 |bX m _ _ _ _ _=>exact A9 m n
 |bK _ _ _ _ m _ _=>exact A9 m n
 |_=>rfl
def SV.gD (n:Nat):SV->Bool
 |.one c=>c.gD n
 |.agg cs=>cs.any (SC.gD n)
 |.bk xs=>xs.any fun x=>x.2.any (SC.gD n)
theorem Rq (n:Nat) (cs:List SC):(cs.map SC.er).any (ab.gD n)=cs.any (SC.gD n):=by
 rw[List.any_map]
 congr 1
 funext c
 exact SC.J9 n c
theorem SV.J9 (n:Nat) (v:SV):v.er.gD n=v.gD n:=by
 cases v with
 |one c=>exact SC.J9 n c
 |agg cs=>exact Rq n cs
 |bk xs=>
  simp only[SV.er,ah.gD,SV.gD,List.any_map]
  congr 1
  funext x
  exact Rq n x.2
def Z4 (n:Nat):Option SB->Bool
 |some (.box cs)=>cs.any (SC.gD n)
 |_=>false
def Iw (n:Nat):List Nat->Bool
 |[]=>false
 |m::l=>match Nat.beq n m with
  |true=>true
  |false=>Iw n l
theorem Wh (n:Nat):∀l:List Nat,Iw n l=l.contains n
 |[]=>rfl
 |m::l=>by
  simp only[Iw,List.contains_cons]
  have e:(n==m)=Nat.beq n m:=by cases h:Nat.beq n m with
   |true=>simpa using Nat.eq_of_beq_eq_true h
   |false=>simp;intro h';rw[h',Nat.beq_refl] at h;cases h
  rw[e,Wh n l]
  cases Nat.beq n m<;>rfl
def aa.iO (σ:aa) (ke kh:List Nat):Nat->Bool:=fun n=>(σ.h n).isSome&&Iw n kh&&(Nat.ble aJ n||ke.any (fun s=>(σ.env s).gD n)||kh.any fun k=>Z4 n (σ.h k))
theorem aa.ajZ (σ:aa) (ke kh:List Nat):σ.er.iO ke kh=σ.iO ke kh:=by
 funext n
 simp only[St.iO,aa.iO]
 have h1:(σ.er.h n).isSome=(σ.h n).isSome:=Wm σ.h n
 have h2:(fun s=>(σ.er.env s).gD n)=fun s=>(σ.env s).gD n:=by funext s;exact SV.J9 n _
 have h3:(fun k=>match σ.er.h k with|some (.box cs)=>cs.any (·.gD n)|_=>false)=fun k=>Z4 n (σ.h k):=by
  funext k
  have:σ.er.h k=(σ.h k).map SB.er:=rfl
  rw[this]
  cases σ.h k with
  |none=>rfl
  |some b=>cases b with
   |box cs=>exact Rq n cs
   |row gr m ts xs=>rfl
 rw[h1,h2,Wh,Bool.and_comm (x:=(σ.h n).isSome)]
 exact congrArg (fun g:Nat->Bool=>(kh.contains n&&(σ.h n).isSome&&((Nat.ble aJ n||ke.any fun s=>SV.gD n (σ.env s))||kh.any g))) h3
def aa.hJ (σ:aa) (ke kh:List Nat):aa:=
 {env:=Ai (σ.iO ke kh) σ.env ke,h:=wi (σ.iO ke kh) σ.h kh,used:=fun n=>Nat.ble aJ n||sC (σ.iO ke kh) kh n}
theorem aa.Rw (σ:aa) (ke kh:List Nat):(σ.hJ ke kh).er=σ.er.hJ ke kh:=by
 simp only[aa.hJ,St.hJ,aa.ajZ]
 have e1:=aa3 (σ.iO ke kh) σ.env ke
 have e2:=KF (σ.iO ke kh) σ.h kh
 have e3:=aa4 (σ.iO ke kh) kh
 show St.mk (qw (Ai (σ.iO ke kh) σ.env ke)) (cf (wi (σ.iO ke kh) σ.h kh)) (fun n=>Nat.ble aJ n||sC (σ.iO ke kh) kh n)=_
 rw[e1,e2,e3]
 rfl
def rn (x c n:Nat):Nat:=match Nat.beq n x with|true=>c|false=>n
theorem C7 (x c n:Nat):rn x c n=mN x c n:=by
 unfold rn mN
 cases h:Nat.beq n x with
 |true=>rw[if_pos (Nat.eq_of_beq_eq_true h)]
 |false=>rw[if_neg (fun e=>by rw[e,Nat.beq_refl] at h;cases h)]
def SC.nH (x c:Nat):SC->SC
 |.ptr n k sz off=>.ptr (rn x c n) k sz off
 |.sl n sz lo len=>.sl (rn x c n) sz lo len
 |.bf n k au off sz len=>.bf (rn x c n) k au off sz len
 |.bX n k au off sz i=>.bX (rn x c n) k au off sz i
 |.bK ts y off j n sz len=>.bK ts y off j (rn x c n) sz len
 |y=>y
def SC.bc (x c:Nat):SC->SC
 |.fn f bI=>.fn f (bI.map (SC.nH x c))
 |.ptr n k sz off=>.ptr (rn x c n) k sz off
 |.sl n sz lo len=>.sl (rn x c n) sz lo len
 |.bf n k au off sz len=>.bf (rn x c n) k au off sz len
 |.bX n k au off sz i=>.bX (rn x c n) k au off sz i
 |.bK ts y off j n sz len=>.bK ts y off j (rn x c n) sz len
 |.v t y=>.v t y
 |.nil ts=>.nil ts
 |.cd ts y off=>.cd ts y off
 |.aX=>.aX
theorem SC.ak7 (x c:Nat) (y:SC):(y.nH x c).er=y.er.nH x c:=by
 cases y<;>simp[SC.nH,SC.er,ab.nH,C7]
theorem SC.x6 (x c:Nat) (y:SC):(y.bc x c).er=y.er.bc x c:=by
 cases y with
 |fn f bI=>
  simp only[SC.bc,SC.er,ab.bc,SC.y5,List.map_map]
  congr 1
  exact List.map_congr_left fun y _=>SC.ak7 x c y
 |ptr n k sz off=>simp only[SC.bc,SC.er,ab.bc,ab.nH,C7]
 |sl n sz lo len=>simp only[SC.bc,SC.er,ab.bc,ab.nH,C7]
 |bf n k au off sz len=>simp only[SC.bc,SC.er,ab.bc,ab.nH,C7]
 |bX n k au off sz i=>simp only[SC.bc,SC.er,ab.bc,ab.nH,C7]
 |bK ts y off j n sz len=>simp only[SC.bc,SC.er,ab.bc,ab.nH,C7]
 |_=>rfl
theorem Ru (x c:Nat) (cs:List SC):(cs.map (SC.bc x c)).map SC.er=(cs.map SC.er).map (ab.bc x c):=by
 simp only[List.map_map]
 exact List.map_congr_left fun y _=>SC.x6 x c y
def SV.bc (x c:Nat):SV->SV
 |.one y=>.one (y.bc x c)
 |.agg ys=>.agg (ys.map (SC.bc x c))
 |.bk ys=>.bk (ys.map fun y=>(y.1,y.2.map (SC.bc x c)))
theorem SV.x6 (x c:Nat) (v:SV):(v.bc x c).er=v.er.bc x c:=by
 cases v with
 |one y=>simp only[SV.bc,SV.er,ah.bc,SC.x6]
 |agg cs=>simp only[SV.bc,SV.er,ah.bc,Ru]
 |bk xs=>
  simp only[SV.bc,SV.er,ah.bc,List.map_map]
  congr 1
  exact List.map_congr_left fun y _=>by simp only[Function.comp];rw[Ru]
def SB.bc (x c:Nat):SB->SB
 |.box cs=>.box (cs.map (SC.bc x c))
 |.row gr m ts xs=>.row gr m ts xs
theorem SB.x6 (x c:Nat) (b:SB):(b.bc x c).er=b.er.bc x c:=by
 cases b with
 |box cs=>simp only[SB.bc,SB.er,aj.bc,Ru]
 |row gr m ts xs=>rfl
def aa.bc (σ:aa) (x c:Nat):Option aa:=
  match Nat.beq x c with
  |true=>some σ
  |false=>match Nat.ble aJ x with
   |true=>some σ
   |false=>match σ.used c with
    |true=>none
    |false=>some
     {env:=fun s=>(σ.env s).bc x c
      h:=fun n=>match Nat.beq n c with
        |true=>(σ.h x).map (SB.bc x c)
        |false=>match Nat.beq n x with
         |true=>none
         |false=>(σ.h n).map (SB.bc x c)
      used:=fun n=>match Nat.beq n c with
        |true=>σ.used x
        |false=>match Nat.beq n x with
         |true=>false
         |false=>σ.used n}
theorem xN {m n:Nat} (h:Nat.beq m n=false):m≠n:=fun e=>by rw[e,Nat.beq_refl] at h;cases h
theorem aa.x6 {σ σ1:aa} {x c:Nat} (h:σ.bc x c=some σ1):σ.er.bc x c=some σ1.er:=by
 unfold aa.bc at h
 split at h
 ·rename_i e
  injection h with h
  subst h
  simp[St.bc,Nat.eq_of_beq_eq_true e]
 ·rename_i e
  split at h
  ·rename_i hx
   injection h with h
   subst h
   simp only[St.bc,if_neg (xN e),hx,if_true]
  rename_i hx
  split at h
  ·cases h
  ·rename_i hu
   injection h with h
   subst h
   have mA:σ.er.used c=false:=hu
   simp only[St.bc,if_neg (xN e),hx,mA,Bool.false_eq_true,if_false]
   congr 1
   have mm:∀o:Option SB,(o.map (SB.bc x c)).map SB.er=(o.map SB.er).map (·.bc x c):=by
    intro o;cases o with
    |none=>rfl
    |some b=>simp only[Option.map_some,SB.x6]
   have e1:(fun s=>(σ.er.env s).bc x c)=qw (fun s=>(σ.env s).bc x c):=by
    funext s;exact(SV.x6 x c (σ.env s)).symm
   have e2:(fun n=>if n=c then(σ.er.h x).map (·.bc x c) else if n=x then none else(σ.er.h n).map (·.bc x c))=cf (fun n=>match Nat.beq n c with
     |true=>(σ.h x).map (SB.bc x c)
     |false=>match Nat.beq n x with
      |true=>none
      |false=>(σ.h n).map (SB.bc x c)):=by
    funext n
    simp only[cf]
    cases hc:Nat.beq n c with
    |true=>rw[if_pos (Nat.eq_of_beq_eq_true hc)];exact(mm (σ.h x)).symm
    |false=>
     rw[if_neg (xN hc)]
     cases hx:Nat.beq n x with
     |true=>rw[if_pos (Nat.eq_of_beq_eq_true hx)];rfl
     |false=>rw[if_neg (xN hx)];exact(mm (σ.h n)).symm
   have e3:(fun n=>if n=c then σ.er.used x else if n=x then false else σ.er.used n)=(fun n=>match Nat.beq n c with
     |true=>σ.used x
     |false=>match Nat.beq n x with
      |true=>false
      |false=>σ.used n):=by
    funext n
    cases hc:Nat.beq n c with
    |true=>rw[if_pos (Nat.eq_of_beq_eq_true hc)];rfl
    |false=>
     rw[if_neg (xN hc)]
     cases hx:Nat.beq n x with
     |true=>rw[if_pos (Nat.eq_of_beq_eq_true hx)]
     |false=>rw[if_neg (xN hx)];rfl
   rw[e1,e2,e3]
   rfl
abbrev Cn:=List (Bool×Nat×Nat×Nat×Mode×List Ty)
def Cn.er (cn:Cn):List (Bool×Nat×Nat×Nat×Mode):=cn.map fun x=>(x.1,x.2.1,x.2.2.1,x.2.2.2.1,x.2.2.2.2.1)
def aa.jD (σ:aa) (c:Nat):Mode->aa
 |.aG=>match σ.h c with
  |some (.row gr .af ts xs)=>σ.cW c (.row gr .aG ts xs)
  |_=>σ
 |_=>σ
theorem aa.adf (σ:aa) (c:Nat) (m:Mode):(σ.jD c m).er=σ.er.jD c m:=by
 cases m with
 |live=>rfl
 |af=>rfl
 |aG=>
  simp only[aa.jD,St.jD]
  have hh:σ.er.h c=(σ.h c).map SB.er:=rfl
  rw[hh]
  cases σ.h c with
  |none=>rfl
  |some b=>cases b with
   |box cs=>rfl
   |row gr m ts xs=>cases m with
    |af=>simp only[Option.map_some,SB.er,aa.n6]
    |live=>rfl
    |aG=>rfl
def x9 (σ:aa):Bool×Nat×Nat×Nat×Mode×List Ty->Option aa
 |(true,n,j,c,m,us)=>match σ.h n with
  |some (.box cs)=>match cs[j]? with
   |some (.sl a _ _ _)=>(σ.bc a c).map fun σ1=>σ1.jD c m
   |some (.nil ts)=>match ts with
    |[]=>some σ
    |t::ts=>match σ.ins c (.row true m (t::ts) []) with
     |some σ1=>some (σ1.cW n (.box (cs.set j (.sl c (t::ts).length 0 0))))
     |none=>none
   |_=>some σ
  |_=>some σ
 |(false,n,j,c,m,us)=>match σ.env n with
  |.one (.sl a _ _ _)=>(σ.bc a c).map fun σ1=>σ1.jD c m
  |.one (.nil ts)=>match ts with
   |[]=>some σ
   |t::ts=>match σ.ins c (.row true m (t::ts) []) with
    |some σ1=>some (σ1.put (some n) (.one (.sl c (t::ts).length 0 0)))
    |none=>none
  |_=>some σ
theorem aa2 {σ σ1:aa} {a c:Nat} {m:Mode} (h:(σ.bc a c).map (fun σ1=>σ1.jD c m)=some σ1):(σ.er.bc a c).map (fun σ1=>σ1.jD c m)=some σ1.er:=by
 rw[Option.map_eq_some_iff] at h
 obtain⟨σ2,e,rfl⟩:=h
 rw[aa.x6 e,Option.map_some,aa.adf]
theorem alC {σ σ1:aa} {x:Bool×Nat×Nat×Nat×Mode×List Ty} (h:x9 σ x=some σ1):σ.er.canon (x.1,x.2.1,x.2.2.1,x.2.2.2.1,x.2.2.2.2.1)=some σ1.er:=by
 obtain⟨b,n,j,c,m,us⟩:=x
 cases b with
 |true=>
  simp only[x9] at h
  simp only[St.canon]
  have hh:σ.er.h n=(σ.h n).map SB.er:=rfl
  rw[hh]
  split at h
  ·rename_i cs hn
   simp only[hn,Option.map_some,SB.er,List.getElem?_map]
   split at h
   ·rename_i a _ _ _ hj
    simp only[hj,Option.map_some,SC.er]
    exact aa2 h
   ·rename_i ts hj
    simp only[hj,Option.map_some,SC.er]
    split at h
    ·injection h with h;subst h;rfl
    ·rename_i t ts
     split at h
     ·rename_i σ2 e
      injection h with h
      subst h
      have i:=aa.m9 e
      rw[show(SB.row true m (t::ts) []).er=aj.row true m (t::ts).length [] from rfl] at i
      simp only[List.length_cons,Nat.zero_lt_succ,if_true] at i⊢
      rw[i]
      simp only[aa.n6,SB.er,List.map_set,SC.er,List.length_cons]
     ·cases h
   ·rename_i hs hz
    injection h with h
    subst h
    cases hj:cs[j]? with
    |none=>rfl
    |some y=>cases y<;>first|rfl|(exfalso;exact hs _ _ _ _ hj)|(exfalso;exact hz _ hj)
  ·rename_i hb
   injection h with h
   subst h
   cases hn:σ.h n with
   |none=>rfl
   |some b=>cases b with
    |box cs=>exact absurd hn (hb cs)
    |row gr m ts xs=>rfl
 |false=>
  simp only[x9] at h
  simp only[St.canon]
  have hh:σ.er.env n=(σ.env n).er:=rfl
  rw[hh]
  split at h
  ·rename_i a _ _ _ hn
   simp only[hn,SV.er,SC.er]
   exact aa2 h
  ·rename_i ts hn
   simp only[hn,SV.er,SC.er]
   split at h
   ·injection h with h;subst h;rfl
   ·rename_i t ts
    split at h
    ·rename_i σ2 e
     injection h with h
     subst h
     have i:=aa.m9 e
     rw[show(SB.row true m (t::ts) []).er=aj.row true m (t::ts).length [] from rfl] at i
     simp only[List.length_cons,Nat.zero_lt_succ,if_true] at i⊢
     rw[i]
     simp only[aa.cL,SV.er,SC.er,List.length_cons]
    ·cases h
  ·rename_i hs hz
   injection h with h
   subst h
   cases hn:σ.env n with
   |one y=>cases y<;>first|rfl|(exfalso;exact hs _ _ _ _ hn)|(exfalso;exact hz _ hn)
   |_=>rfl
def CT (σ:aa):Cn->Option aa
 |[]=>some σ
 |x::l=>match x9 σ x with
  |some σ1=>CT σ1 l
  |none=>none
theorem aaq:∀{cn:Cn} {σ σ1:aa},CT σ cn=some σ1->σ.er.s7 cn.er=some σ1.er
 |[],σ,σ1,h=>by simp only[CT] at h;injection h with h;subst h;rfl
 |x::l,σ,σ1,h=>by
  simp only[CT] at h
  split at h
  ·rename_i σ2 e
   have i:=alC e
   have j:=aaq h
   simp only[Cn.er] at j
   simp only[Cn.er,List.map_cons,St.s7,i,j]
  ·cases h
section
variable {ρ:Type}
def xK (n:Nat) (k:Nat->Option ρ):List Nat->Option ρ
 |[]=>k n
 |c::l=>match Nat.beq n c with
  |true=>k c
  |false=>xK n k l
theorem Zq (n:Nat) (k:Nat->Option ρ):∀l,xK n k l=k n
 |[]=>rfl
 |c::l=>by
  simp only[xK]
  split
  ·rename_i e;rw[Nat.eq_of_beq_eq_true e]
  ·exact Zq n k l
def NU (kh:List Nat) (c:SC) (k:SC->Option ρ):Option ρ:=
 match c with
 |.v t x=>k (.v t x)
 |.nil ts=>k (.nil ts)
 |.ptr n kk sz off=>xK n (fun n=>k (.ptr n kk sz off)) kh
 |.cd ts x off=>k (.cd ts x off)
 |.sl n sz lo len=>xK n (fun n=>k (.sl n sz lo len)) kh
 |.bf n a b c d e=>xK n (fun n=>k (.bf n a b c d e)) kh
 |.bX n a b c d e=>xK n (fun n=>k (.bX n a b c d e)) kh
 |.bK ts x off j n sz len=>xK n (fun n=>k (.bK ts x off j n sz len)) kh
 |.fn f bI=>k (.fn f bI)
 |.aX=>k .aX
theorem W9 (kh:List Nat) (c:SC) (k:SC->Option ρ):NU kh c k=k c:=by
 cases c<;>first|rfl|exact Zq _ _ _
def Ec (kh:List Nat):List SC->(List SC->Option ρ)->Option ρ
 |[],k=>k []
 |c::cs,k=>NU kh c fun c=>Ec kh cs fun cs=>k (c::cs)
theorem NV (kh:List Nat):∀(cs:List SC) (k:List SC->Option ρ),Ec kh cs k=k cs
 |[],k=>rfl
 |c::cs,k=>by simp only[Ec,W9,NV kh cs]
def uU (kh:List Nat) (env:Nat->SV):List Nat->(List (Nat×SV)->Option ρ)->Option ρ
 |[],k=>k []
 |s::ss,k=>match env s with
  |.one .aX=>uU kh env ss k
  |.one c=>NU kh c fun c=>uU kh env ss fun l=>k ((s,.one c)::l)
  |.agg cs=>Ec kh cs fun cs=>uU kh env ss fun l=>k ((s,.agg cs)::l)
  |.bk xs=>uU kh env ss fun l=>k ((s,.bk xs)::l)
def uV (kh:List Nat) (h:Nat->Option SB):List Nat->(List (Nat×Option SB)->Option ρ)->Option ρ
 |[],k=>k []
 |n::ns,k=>match h n with
  |none=>uV kh h ns k
  |some (.box cs)=>Ec kh cs fun cs=>uV kh h ns fun l=>k ((n,some (.box cs))::l)
  |some (.row gr m ts xs)=>uV kh h ns fun l=>k ((n,some (.row gr m ts xs))::l)
def zh (u:Nat->Bool):List Nat->(List Nat->Option ρ)->Option ρ
 |[],k=>k []
 |n::ns,k=>match u n with
  |true=>zh u ns fun l=>k (n::l)
  |false=>zh u ns k
def wu:List Nat->Nat->Bool
 |[],n=>Nat.ble aJ n
 |m::l,n=>match Nat.beq n m with
  |true=>true
  |false=>wu l n
def aa.BD (ke kh:List Nat) (σ:aa) (k:aa->Option ρ):Option ρ:=
 uU kh σ.env ke fun le=>uV kh σ.h kh fun lh=>zh σ.used kh fun lu=>k ⟨k7 le,jH lh,wu lu⟩
structure h9 (ke kh:List Nat) (σ:aa):Prop where
 e:∀s,s∉ke->σ.env s=.one .aX
 h:∀n,n∉kh->σ.h n=none
 u:∀n,n∉kh->σ.used n=Nat.ble aJ n
 p:∀n,σ.used n=false->Nat.ble aJ n=false
theorem Xa (kh:List Nat) (env:Nat->SV):∀(ss:List Nat) (k:List (Nat×SV)->Option ρ),∃l:List (Nat×SV),uU kh env ss k=k l/\∀s,k7 l s=if s∈ss then env s else .one .aX
 |[],k=>⟨[],rfl,fun s=>by simp[k7]⟩
 |a::ss,k=>by
  have bW:∀v:SV,env a=v->(∀k':List (Nat×SV)->Option ρ,∃l,uU kh env ss k'=k' l/\∀s,k7 l s=if s∈ss then env s else .one .aX)->
    ∃l:List (Nat×SV),uU kh env ss (fun l=>k ((a,v)::l))=k l/\∀s,k7 l s=if s∈a::ss then env s else .one .aX:=by
   intro v hv ih
   obtain⟨l,h1,h2⟩:=ih fun l=>k ((a,v)::l)
   refine⟨(a,v)::l,h1,fun s=>?_⟩
   simp only[k7,iU]
   split
   ·rename_i e
    subst e
    rw[if_pos (by simp)]
    exact hv.symm
   ·rename_i av
    rw[h2 s]
    by_cases hs:s∈ss
    ·rw[if_pos hs,if_pos (by simp[hs])]
    ·rw[if_neg hs,if_neg (by simp[hs,av])]
  have ih:=fun k':List (Nat×SV)->Option ρ=>Xa kh env ss k'
  simp only[uU]
  split
  ·rename_i hv
   obtain⟨l,h1,h2⟩:=ih k
   refine⟨l,h1,fun s=>?_⟩
   rw[h2 s]
   by_cases hs:s∈ss
   ·rw[if_pos hs,if_pos (by simp[hs])]
   ·rw[if_neg hs]
    by_cases xi:s=a
    ·subst xi;rw[if_pos (by simp),hv]
    ·rw[if_neg (by simp[hs,xi])]
  ·rename_i c hc hv
   rw[W9]
   exact bW _ hv ih
  ·rename_i cs hv
   rw[NV]
   exact bW _ hv ih
  ·rename_i xs hv
   exact bW _ hv ih
theorem Xb (kh:List Nat) (h:Nat->Option SB):∀(ns:List Nat) (k:List (Nat×Option SB)->Option ρ),∃l:List (Nat×Option SB),uV kh h ns k=k l/\∀n,jH l n=if n∈ns then h n else none
 |[],k=>⟨[],rfl,fun s=>by simp[jH]⟩
 |a::ns,k=>by
  have bW:∀v:Option SB,h a=v->(∀k':List (Nat×Option SB)->Option ρ,∃l,uV kh h ns k'=k' l/\∀s,jH l s=if s∈ns then h s else none)->
    ∃l:List (Nat×Option SB),uV kh h ns (fun l=>k ((a,v)::l))=k l/\∀s,jH l s=if s∈a::ns then h s else none:=by
   intro v hv ih
   obtain⟨l,h1,h2⟩:=ih fun l=>k ((a,v)::l)
   refine⟨(a,v)::l,h1,fun s=>?_⟩
   simp only[jH,iU]
   split
   ·rename_i e
    subst e
    rw[if_pos (by simp)]
    exact hv.symm
   ·rename_i av
    rw[h2 s]
    by_cases hs:s∈ns
    ·rw[if_pos hs,if_pos (by simp[hs])]
    ·rw[if_neg hs,if_neg (by simp[hs,av])]
  have ih:=fun k':List (Nat×Option SB)->Option ρ=>Xb kh h ns k'
  simp only[uV]
  split
  ·rename_i hv
   obtain⟨l,h1,h2⟩:=ih k
   refine⟨l,h1,fun s=>?_⟩
   rw[h2 s]
   by_cases hs:s∈ns
   ·rw[if_pos hs,if_pos (by simp[hs])]
   ·rw[if_neg hs]
    by_cases xi:s=a
    ·subst xi;rw[if_pos (by simp),hv]
    ·rw[if_neg (by simp[hs,xi])]
  ·rename_i cs hv
   rw[NV]
   exact bW _ hv ih
  ·rename_i gr m ts xs hv
   exact bW _ hv ih
theorem NW (u:Nat->Bool) (hp:∀n,u n=false->Nat.ble aJ n=false):∀(ns:List Nat) (k:List Nat->Option ρ),∃l:List Nat,zh u ns k=k l/\∀n,wu l n=if n∈ns then u n else Nat.ble aJ n
 |[],k=>⟨[],rfl,fun s=>by simp[wu]⟩
 |a::ns,k=>by
  simp only[zh]
  split
  ·rename_i hv
   obtain⟨l,h1,h2⟩:=NW u hp ns fun l=>k (a::l)
   refine⟨a::l,h1,fun s=>?_⟩
   simp only[wu]
   split
   ·rename_i e
    have:=Nat.eq_of_beq_eq_true e
    subst this
    rw[if_pos (by simp)]
    exact hv.symm
   ·rename_i e
    have av:=xN e
    rw[h2 s]
    by_cases hs:s∈ns
    ·rw[if_pos hs,if_pos (by simp[hs])]
    ·rw[if_neg hs,if_neg (by simp[hs,av])]
  ·rename_i hv
   obtain⟨l,h1,h2⟩:=NW u hp ns k
   refine⟨l,h1,fun s=>?_⟩
   rw[h2 s]
   by_cases hs:s∈ns
   ·rw[if_pos hs,if_pos (by simp[hs])]
   ·rw[if_neg hs]
    by_cases xi:s=a
    ·subst xi;rw[if_pos (by simp),hv,hp _ hv]
    ·rw[if_neg (by simp[hs,xi])]
theorem II {ke kh:List Nat} {σ:aa} (W:h9 ke kh σ) (k:aa->Option ρ):σ.BD ke kh k=k σ:=by
 unfold aa.BD
 obtain⟨le,e1,e2⟩:=Xa kh σ.env ke fun le=>uV kh σ.h kh fun lh=>zh σ.used kh fun lu=>k ⟨k7 le,jH lh,wu lu⟩
 rw[e1]
 obtain⟨lh,h1,h2⟩:=Xb kh σ.h kh fun lh=>zh σ.used kh fun lu=>k ⟨k7 le,jH lh,wu lu⟩
 rw[h1]
 obtain⟨lu,u1,u2⟩:=NW σ.used W.p kh fun lu=>k ⟨k7 le,jH lh,wu lu⟩
 rw[u1]
 have a1:k7 le=σ.env:=by
  funext s
  rw[e2 s]
  split
  ·rfl
  ·rename_i hs;exact(W.e s hs).symm
 have a2:jH lh=σ.h:=by
  funext s
  rw[h2 s]
  split
  ·rfl
  ·rename_i hs;exact(W.h s hs).symm
 have a3:wu lu=σ.used:=by
  funext s
  rw[u2 s]
  split
  ·rfl
  ·rename_i hs;exact(W.u s hs).symm
 rw[a1,a2,a3]
theorem h9.hJ (ke kh:List Nat) (σ:aa):h9 ke kh (σ.hJ ke kh):=
 ⟨fun s hs=>T7 _ _ _ s hs,fun n hn=>T8 _ _ _ n hn,fun n hn=>by show(Nat.ble aJ n||sC _ _ n)=_;rw[T9 _ _ n hn,Bool.or_false],
  fun n hn=>by have bh:(Nat.ble aJ n||sC _ _ n)=false:=hn;simp only[Bool.or_eq_false_iff] at bh;exact bh.1⟩
theorem h9.bc {ke kh:List Nat} {σ σ1:aa} {a c:Nat} (W:h9 ke kh σ) (hc:c∈kh) (h:σ.bc a c=some σ1):h9 ke kh σ1:=by
 unfold aa.bc at h
 split at h
 ·injection h with h;subst h;exact W
 ·split at h
  ·injection h with h;subst h;exact W
  ·rename_i np
   split at h
   ·cases h
   ·rename_i Jg
    injection h with h
    subst h
    refine⟨fun s hs=>?_,fun n hn=>?_,fun n hn=>?_,fun n hn=>?_⟩
    ·show(σ.env s).bc a c=_
     rw[W.e s hs];rfl
    ·simp only
     split
     ·rename_i e;exact absurd (by rw[Nat.eq_of_beq_eq_true e];exact hc) hn
     ·split
      ·rfl
      ·rw[W.h n hn];rfl
    ·simp only
     split
     ·rename_i e;exact absurd (by rw[Nat.eq_of_beq_eq_true e];exact hc) hn
     ·split
      ·rename_i e;rw[Nat.eq_of_beq_eq_true e,np]
      ·exact W.u n hn
    ·simp only at hn
     split at hn
     ·rename_i e;rw[Nat.eq_of_beq_eq_true e];exact W.p c Jg
     ·split at hn
      ·rename_i e;rw[Nat.eq_of_beq_eq_true e,np]
      ·exact W.p n hn
theorem h9.ins {ke kh:List Nat} {σ σ1:aa} {c:Nat} {b:SB} (W:h9 ke kh σ) (hc:c∈kh) (h:σ.ins c b=some σ1):h9 ke kh σ1:=by
 unfold aa.ins at h
 split at h
 ·cases h
 ·rename_i Jg
  injection h with h
  subst h
  refine⟨W.e,fun n hn=>?_,fun n hn=>?_,fun n hn=>?_⟩
  ·show ao σ.h c _ n=_
   rw[bP _ _ _ _ (fun e=>hn (by rw[e];exact hc))];exact W.h n hn
  ·show ao σ.used c _ n=_
   rw[bP _ _ _ _ (fun e=>hn (by rw[e];exact hc))];exact W.u n hn
  ·have bh:ao σ.used c true n=false:=hn
   by_cases e:n=c
   ·subst e;rw[bo] at bh;cases bh
   ·rw[bP _ _ _ _ e] at bh;exact W.p n bh
theorem h9.jD {ke kh:List Nat} {σ:aa} (W:h9 ke kh σ) (c:Nat) (m:Mode):h9 ke kh (σ.jD c m):=by
 cases m with
 |live=>exact W
 |af=>exact W
 |aG=>
  simp only[aa.jD]
  split
  ·rename_i gr ts xs hn
   exact⟨W.e,fun n hk=>by
    show ao σ.h c _ n=none
    have od:n≠c:=fun e=>by subst e;rw[W.h n hk] at hn;cases hn
    rw[bP _ _ _ _ od];exact W.h n hk,W.u,W.p⟩
  ·exact W
theorem h9.FD {ke kh:List Nat} {σ σ1:aa} {a c:Nat} {m:Mode} (W:h9 ke kh σ) (hc:c∈kh) (h:(σ.bc a c).map (fun σ1=>σ1.jD c m)=some σ1):h9 ke kh σ1:=by
 rw[Option.map_eq_some_iff] at h
 obtain⟨σ2,e,rfl⟩:=h
 exact(W.bc hc e).jD c m
theorem h9.canon {ke kh:List Nat} {σ σ1:aa} {x:Bool×Nat×Nat×Nat×Mode×List Ty} (W:h9 ke kh σ) (hc:x.2.2.2.1∈kh) (h:x9 σ x=some σ1):h9 ke kh σ1:=by
 obtain⟨b,n,j,c,m,us⟩:=x
 simp only at hc
 have fU:some σ=some σ1->h9 ke kh σ1:=fun h=>by injection h with h;subst h;exact W
 cases b with
 |true=>
  simp only[x9] at h
  split at h
  ·rename_i cs hn
   split at h
   ·exact W.FD hc h
   ·split at h
    ·exact fU h
    ·split at h
     ·rename_i σ2 e
      injection h with h
      subst h
      have W2:=W.ins hc e
      have OE:n∈kh:=by
       rcases Decidable.em (n∈kh) with h|h
       ·exact h
       ·rw[W.h n h] at hn;cases hn
      exact⟨W2.e,fun q hq=>by show ao σ2.h n _ q=_;rw[bP _ _ _ _ (fun e=>hq (by rw[e];exact OE))];exact W2.h q hq,W2.u,W2.p⟩
     ·cases h
   ·exact fU h
  ·exact fU h
 |false=>
  simp only[x9] at h
  split at h
  ·exact W.FD hc h
  ·rename_i ts hn
   split at h
   ·exact fU h
   ·split at h
    ·rename_i σ2 e
     injection h with h
     subst h
     have W2:=W.ins hc e
     have OE:n∈ke:=by
      rcases Decidable.em (n∈ke) with h|h
      ·exact h
      ·rw[W.e n h] at hn;cases hn
     exact⟨fun q hq=>by show ao σ2.env n _ q=_;rw[bP _ _ _ _ (fun e=>hq (by rw[e];exact OE))];exact W2.e q hq,W2.h,W2.u,W2.p⟩
    ·cases h
  ·exact fU h
def Kn (ke kh:List Nat):Cn->aa->(aa->Option ρ)->Option ρ
 |[],σ,k=>k σ
 |x::l,σ,k=>match x9 σ x with
  |some σ1=>match List.elem x.2.2.2.1 kh with
   |true=>σ1.BD ke kh fun σ2=>Kn ke kh l σ2 k
   |false=>none
  |none=>none
theorem aap {ke kh:List Nat}:∀{cn:Cn} {σ:aa} {k:aa->Option ρ} {r:ρ},h9 ke kh σ->Kn ke kh cn σ k=some r->∃σ1,CT σ cn=some σ1/\k σ1=some r
 |[],σ,k,r,W,h=>⟨σ,rfl,h⟩
 |x::l,σ,k,r,W,h=>by
  simp only[Kn] at h
  split at h
  ·rename_i σ1 e
   split at h
   ·rename_i hm
    have W1:=W.canon (by simpa using hm) e
    rw[II W1] at h
    obtain⟨σ2,h1,h2⟩:=aap W1 h
    exact⟨σ2,by simp only[CT,e,h1],h2⟩
   ·cases h
  ·cases h
def CX (sh:jm) (kh:List Nat) (cn:Cn) (σ:aa) (k:sh.L.D->Option ρ):Option ρ:=
 (σ.hJ sh.ke kh).BD sh.ke kh fun σ1=>(σ1.hJ sh.ke kh).BD sh.ke kh fun σ2=>Kn sh.ke kh cn σ2 fun fE=>(fE.hJ sh.ke kh).BD sh.ke kh fun σ4=>sh.flat kh σ4 k
theorem Ks {sh:jm} {kh:List Nat} {cn:Cn} {σ:aa} {k:sh.L.D->Option ρ} {r:ρ} (h:CX sh kh cn σ k=some r):
  ∃x,σ.er.head sh.ke kh cn.er=some (sh.un x).er/\k x=some r:=by
 unfold CX at h
 rw[II (h9.hJ _ _ _),II (h9.hJ _ _ _)] at h
 obtain⟨σ1,e,h⟩:=aap (h9.hJ _ _ _) h
 rw[II (h9.hJ _ _ _)] at h
 obtain⟨x,h1,h2⟩:=jm.pf h (fun s hs=>T7 _ _ _ s hs) (fun n hn=>⟨T8 _ _ _ n hn,by show(Nat.ble aJ n||sC _ _ n)=_;rw[T9 _ _ n hn,Bool.or_false]⟩)
 have i:=aaq e
 rw[aa.Rw,aa.Rw] at i
 exact⟨x,by simp only[St.head,i,<-h1,aa.Rw],h2⟩
end
inductive bE where
 |skip
 |ae (jW:Bool) (ops:List ez)
 |t9 (ps:List (Nat×Nat)) (ops:List ez)
 |re (its:List uz)
 |sr (jW:Bool) (ps:List (Nat×Nat)) (ops:List ez) (sp:DA)
 |seq (a b:bE)
 |cond (c:bV) (a b:bE)
 |block (id:Nat) (c:bE)
 |join (sh:jm) (kh:List Nat) (cn:Cn) (c:bE)
 |loop (id:Nat) (sh:jm) (kh:List Nat) (cn:Cn) (c:bE)
 |exit (id:Nat)
 |ret
def bE.er:bE->kR
 |.skip=>.skip
 |.ae d ops=>.ae d (ops.map ez.er)
 |.t9 ps ops=>.t9 ps (ops.map ez.er)
 |.re its=>.re (its.map uz.er)
 |.sr dr ps ops sp=>.sr dr ps (ops.map ez.er) sp.er
 |.seq a b=>.seq a.er b.er
 |.cond c a b=>.cond c.er a.er b.er
 |.block id c=>.block id c.er
 |.join sh kh cn c=>.join sh.ke kh cn.er c.er
 |.loop id sh kh cn c=>.loop id sh.ke kh cn.er c.er
 |.exit id=>.exit id
 |.ret=>.ret
def aa.PN (σ:aa) (c:bV) (b:Bool):aa:=
 match c with
 |.t n=>σ.lit n b
 |.k _=>σ
def xw {X ρ:Type} (o:Option ρ):Option (X⊕ρ):=o.U fun r=>some (.inr r)
theorem Ch {X ρ:Type} {o:Option ρ} {s:X⊕ρ} (h:xw o=some s):∃r,o=some r/\s=.inr r:=by
 unfold xw at h
 rw[cU] at h
 obtain⟨r,h1,h2⟩:=h
 injection h2 with h2
 exact⟨r,h1,h2.symm⟩
def kK (N:Nat) (T:List ar):bE->{ρ:Type}->aa->(aa->Option ρ)->(Nat->aa->Option ρ)->(aa->Option ρ)->Option ρ
 |.skip,_,σ,k,_,_=>k σ
 |.ae _ ops,_,σ,k,_,_=>nK T ops σ k
 |.t9 ps ops,_,σ,k,_,_=>oL T ps ops [] σ k
 |.re its,_,σ,k,_,_=>FO T its σ k
 |.sr false _ ops sp,_,σ,k,_,_=>nK T ops σ fun σ1=>C2 sp σ1 k
 |.sr true ps ops sp,_,σ,k,_,_=>oL T ps ops [] σ fun σ1=>C2 sp σ1 k
 |.seq a b,_,σ,k,ex,kr=>kK N T a σ (fun σ1=>kK N T b σ1 k ex kr) ex kr
 |.cond c a b,_,σ,k,ex,kr=>match σ.ev c with
  |.one (.v .bool t)=>aL t (kK N T a (σ.PN c true) k ex kr) (kK N T b (σ.PN c false) k ex kr)
  |_=>none
 |.block id c,_,σ,k,ex,kr=>kK N T c σ k (fun i σ1=>match Nat.beq i id with|true=>k σ1|false=>ex i σ1) kr
 |.join sh kh cn c,ρ,σ,k,ex,kr=>
  cI (kK N T c (ρ:=sh.L.D⊕ρ) σ (fun σ1=>CX sh kh cn σ1 fun x=>some (.inl x)) (fun i σ1=>xw (ex i σ1)) (fun σ1=>xw (kr σ1))) fun x=>k (sh.un x)
 |.loop id sh kh cn c,ρ,σ,k,ex,kr=>
  CX sh kh cn σ fun x0=>bC N (fun x=>kK N T c (ρ:=sh.L.D⊕ρ) (sh.un x) (fun σ1=>CX sh kh cn σ1 fun x'=>some (.inl x')) (fun i σ1=>xw (ex i σ1)) (fun σ1=>xw (kr σ1))) x0
 |.exit id,_,σ,_,ex,_=>ex id σ
 |.ret,_,σ,_,_,kr=>kr σ
def U7 {ρ:Type} (k:aa->Option ρ) (ex:Nat->aa->Option ρ) (kr:aa->Option ρ) (r:ρ):sT->Prop
 |.eF τ=>∃eu:aa,τ=eu.er/\k eu=some r
 |.ext i τ=>∃eu:aa,τ=eu.er/\ex i eu=some r
 |.ret τ=>∃eu:aa,τ=eu.er/\kr eu=some r
theorem YT {σ:aa} {c:bV} {b:Bool} (h:σ.ev c=.one (.v .bool b)):(σ.PN c b).er=σ.er:=by
 cases c with
 |t n=>exact aa.DY h
 |k v=>rfl
theorem sB {T:List ar}:∀(m:bE) {ρ:Type} {σ:aa} {k:aa->Option ρ} {ex:Nat->aa->Option ρ} {kr:aa->Option ρ} {r:ρ},kK aM T m σ k ex kr=some r->
    ∃o:sT,dv (bT T) m.er σ.er=some o/\U7 k ex kr r o
  |.skip,ρ,σ,k,ex,kr,r,h=>⟨.eF σ.er,rfl,σ,rfl,h⟩
  |.ae d ops,ρ,σ,k,ex,kr,r,h=>by
   obtain⟨σ1,h1,h2⟩:=FT (h:nK T ops σ k=some r)
   exact⟨.eF σ1.er,by simp only[bE.er,dv,h1],σ1,rfl,h2⟩
  |.t9 ps ops,ρ,σ,k,ex,kr,r,h=>by
   obtain⟨σ1,fs,h1,h2,h3⟩:=Kq (h:oL T ps ops [] σ k=some r)
   exact⟨.eF σ1.er,by simp only[bE.er,dv,h1,h2,cond_true],σ1,rfl,h3⟩
  |.re its,ρ,σ,k,ex,kr,r,h=>by
   obtain⟨σ1,h1,h2⟩:=TH (h:FO T its σ k=some r)
   exact⟨.eF σ1.er,by simp only[bE.er,dv,h1],σ1,rfl,h2⟩
  |.sr false ps ops sp,ρ,σ,k,ex,kr,r,h=>by
   obtain⟨σ1,h1,h2⟩:=FT (h:nK T ops σ (fun σ1=>C2 sp σ1 k)=some r)
   obtain⟨σ2,h3,h4⟩:=aaN h2
   exact⟨.eF σ2.er,by simp only[bE.er,dv,h1,h3],σ2,rfl,h4⟩
  |.sr true ps ops sp,ρ,σ,k,ex,kr,r,h=>by
   obtain⟨σ1,fs,h1,hp,h2⟩:=Kq (h:oL T ps ops [] σ (fun σ1=>C2 sp σ1 k)=some r)
   obtain⟨σ2,h3,h4⟩:=aaN h2
   exact⟨.eF σ2.er,by simp only[bE.er,dv,h1,h3,hp,cond_true],σ2,rfl,h4⟩
  |.seq a b,ρ,σ,k,ex,kr,r,h=>by
   obtain⟨o,h1,h2⟩:=sB a (h:kK aM T a σ (fun σ1=>kK aM T b σ1 k ex kr) ex kr=some r)
   cases o with
   |eF τ=>
    obtain⟨eu,rfl,h2⟩:=h2
    obtain⟨o2,h3,h4⟩:=sB b h2
    exact⟨o2,by simp only[bE.er,dv,h1,h3],h4⟩
   |ext i τ=>exact⟨.ext i τ,by simp only[bE.er,dv,h1],h2⟩
   |ret τ=>exact⟨.ret τ,by simp only[bE.er,dv,h1],h2⟩
  |.cond c a b,ρ,σ,k,ex,kr,r,h=>by
   simp only[kK] at h
   split at h
   · rename_i t hc
     have bZ:σ.er.ev c.er=.one (.c (.bool t)):=by rw[aa.cG,hc];rfl
     cases ht:(t:Bool) with
     |true=>
      rw[ht] at h
      simp only[Mx] at h
      obtain⟨o,h1,h2⟩:=sB a h
      rw[YT (by rw[hc,ht])] at h1
      exact⟨o,by simp only[bE.er,dv,bZ,ht,if_true,h1],h2⟩
     |false=>
      rw[ht] at h
      simp only[Ik] at h
      obtain⟨o,h1,h2⟩:=sB b h
      rw[YT (by rw[hc,ht])] at h1
      exact⟨o,by simp only[bE.er,dv,bZ,ht,Bool.false_eq_true,if_false,h1],h2⟩
   · cases h
  |.block id c,ρ,σ,k,ex,kr,r,h=>by
   obtain⟨o,h1,h2⟩:=sB c (h:kK aM T c σ k (fun i σ1=>match Nat.beq i id with|true=>k σ1|false=>ex i σ1) kr=some r)
   cases o with
   |eF τ=>exact⟨.eF τ,by simp only[bE.er,dv,h1],h2⟩
   |ret τ=>exact⟨.ret τ,by simp only[bE.er,dv,h1],h2⟩
   |ext i τ=>
    obtain⟨eu,rfl,h2⟩:=h2
    simp only at h2
    split at h2
    · rename_i e
      exact⟨.eF eu.er,by simp only[bE.er,dv,h1,if_pos (Nat.eq_of_beq_eq_true e)],eu,rfl,h2⟩
    · rename_i e
      exact⟨.ext i eu.er,by simp only[bE.er,dv,h1,if_neg (xN e)],eu,rfl,h2⟩
  |.join sh kh cn c,ρ,σ,k,ex,kr,r,h=>by
   simp only[kK,cI,Option.bind_eq_some_iff] at h
   obtain⟨s,hs,h⟩:=h
   obtain⟨o,h1,h2⟩:=sB c hs
   cases o with
   |eF τ=>
    obtain⟨eu,rfl,h2⟩:=h2
    obtain⟨x,h3,h4⟩:=Ks h2
    injection h4 with h4
    subst h4
    exact⟨.eF (sh.un x).er,by simp only[bE.er,dv,h1,h3],sh.un x,rfl,h⟩
   |ext i τ=>
    obtain⟨eu,rfl,h2⟩:=h2
    obtain⟨y,h3,rfl⟩:=Ch h2
    injection h with h
    subst h
    exact⟨.ext i eu.er,by simp only[bE.er,dv,h1],eu,rfl,h3⟩
   |ret τ=>
    obtain⟨eu,rfl,h2⟩:=h2
    obtain⟨y,h3,rfl⟩:=Ch h2
    injection h with h
    subst h
    exact⟨.ret eu.er,by simp only[bE.er,dv,h1],eu,rfl,h3⟩
  |.loop id sh kh cn c,ρ,σ,k,ex,kr,r,h=>by
   simp only[kK] at h
   obtain⟨x0,h0,h⟩:=Ks h
   simp only[bE.er,dv]
   have bW:∀(n:Nat) (x0:sh.L.D) (Ld:St),Ld.head sh.ke kh cn.er=some (sh.un x0).er->
       bC n (fun x=>kK aM T c (ρ:=sh.L.D⊕ρ) (sh.un x) (fun σ1=>CX sh kh cn σ1 fun x'=>some (.inl x')) (fun i σ1=>xw (ex i σ1)) (fun σ1=>xw (kr σ1))) x0=some r->
       ∃o:sT,Cq n (fun σ=>match σ.head sh.ke kh cn.er with|some σ1=>dv (bT T) c.er σ1|none=>none) Ld=some o/\U7 k ex kr r o:=by
    intro n
    induction n with
    |zero=>intro x0 Ld h0 h;simp[bC] at h
    |succ n ih=>
     intro x0 Ld h0 h
     simp only[bC] at h
     simp only[Cq,h0]
     split at h
     · rename_i x' hb
       obtain⟨o,h1,h2⟩:=sB c hb
       cases o with
       |eF τ=>
        obtain⟨eu,rfl,h2⟩:=h2
        obtain⟨x2,h3,h4⟩:=Ks h2
        injection h4 with h4
        injection h4 with h4
        subst h4
        simp only[h1]
        exact ih x2 _ h3 h
       |ext i τ=>
        obtain⟨eu,rfl,h2⟩:=h2
        obtain⟨y,_,e⟩:=Ch h2
        cases e
       |ret τ=>
        obtain⟨eu,rfl,h2⟩:=h2
        obtain⟨y,_,e⟩:=Ch h2
        cases e
     · rename_i y hb
       injection h with h
       subst h
       obtain⟨o,h1,h2⟩:=sB c hb
       cases o with
       |eF τ=>
        obtain⟨eu,rfl,h2⟩:=h2
        obtain⟨x2,h3,h4⟩:=Ks h2
        injection h4 with h4
        cases h4
       |ext i τ=>
        obtain⟨eu,rfl,h2⟩:=h2
        obtain⟨y',h3,e⟩:=Ch h2
        injection e with e
        subst e
        exact⟨.ext i eu.er,by simp only[h1],eu,rfl,h3⟩
       |ret τ=>
        obtain⟨eu,rfl,h2⟩:=h2
        obtain⟨y',h3,e⟩:=Ch h2
        injection e with e
        subst e
        exact⟨.ret eu.er,by simp only[h1],eu,rfl,h3⟩
     · cases h
   exact bW aM x0 σ.er h0 h
  |.exit id,ρ,σ,k,ex,kr,r,h=>⟨.ext id σ.er,rfl,σ,rfl,h⟩
  |.ret,ρ,σ,k,ex,kr,r,h=>⟨.ret σ.er,rfl,σ,rfl,h⟩
end Go.Am
