/- S6: heads and code of the typed evaluator. No condition. -/
import Derived.Test.YtifmggmhdcdgbaaS5
set_option linter.unusedVariables false
set_option linter.unusedSimpArgs false
namespace Go.Am
def SC.eI (ok:Nat->Bool):SC->SC
 |.ptr n k sz off=>match ok n with|true=>.ptr n k sz off|false=>.bg
 |.sl n sz lo len=>match ok n with|true=>.sl n sz lo len|false=>.bg
 |.br n k ax off sz len=>match ok n with|true=>.br n k ax off sz len|false=>.bg
 |.cr n k ax off sz i=>match ok n with|true=>.cr n k ax off sz i|false=>.bg
 |x=>x
def SC.cv (ok:Nat->Bool):SC->SC
 |.fn f bR=>.fn f (bR.map (SC.eI ok))
 |.v t x=>.v t x
 |.nil ts=>.nil ts
 |.ptr n k sz off=>SC.eI ok (.ptr n k sz off)
 |.bT ts x off=>.bT ts x off
 |.sl n sz lo len=>SC.eI ok (.sl n sz lo len)
 |.br n k ax off sz len=>SC.eI ok (.br n k ax off sz len)
 |.cr n k ax off sz i=>SC.eI ok (.cr n k ax off sz i)
 |.bg=>.bg
theorem SC.Cy (ok:Nat->Bool) (c:SC):(c.eI ok).er=c.er.eI ok:=by
 cases c with
 |ptr n k sz off=>simp only[SC.eI,SC.er,ah.eI];cases ok n<;>rfl
 |sl n sz lo len=>simp only[SC.eI,SC.er,ah.eI];cases ok n<;>rfl
 |br n k ax off sz len=>simp only[SC.eI,SC.er,ah.eI];cases ok n<;>rfl
 |cr n k ax off sz i=>simp only[SC.eI,SC.er,ah.eI];cases ok n<;>rfl
 |_=>rfl
theorem SC.zL (ok:Nat->Bool) (c:SC):(c.cv ok).er=c.er.cv ok:=by
 cases c with
 |fn f bR=>
  simp only[SC.cv,SC.er,ah.cv,SC.CN,List.map_map]
  congr 1
  exact List.map_congr_left fun c _=>SC.Cy ok c
 |ptr n k sz off=>exact SC.Cy ok (.ptr n k sz off)
 |sl n sz lo len=>exact SC.Cy ok (.sl n sz lo len)
 |br n k ax off sz len=>exact SC.Cy ok (.br n k ax off sz len)
 |cr n k ax off sz i=>exact SC.Cy ok (.cr n k ax off sz i)
 |_=>rfl
def SV.cv (ok:Nat->Bool):SV->SV
 |.one c=>.one (c.cv ok)
 |.agg cs=>.agg (cs.map (SC.cv ok))
 |.bj xs=>.bj (xs.map fun x=>(x.1,x.2.map (SC.cv ok)))
theorem L4 (ok:Nat->Bool) (cs:List SC):(cs.map (SC.cv ok)).map SC.er=(cs.map SC.er).map (ah.cv ok):=by
 simp only[List.map_map]
 exact List.map_congr_left fun c _=>SC.zL ok c
theorem SV.zL (ok:Nat->Bool) (v:SV):(v.cv ok).er=v.er.cv ok:=by
 cases v with
 |one c=>simp only[SV.cv,SV.er,ai.cv,SC.zL]
 |agg cs=>simp only[SV.cv,SV.er,ai.cv,L4]
 |bj xs=>
  simp only[SV.cv,SV.er,ai.cv,List.map_map]
  congr 1
  exact List.map_congr_left fun x _=>by simp only[Function.comp];rw[L4]
def SB.cv (ok:Nat->Bool):SB->SB
 |.box cs=>.box (cs.map (SC.cv ok))
 |.row gr m ts xs=>.row gr m ts xs
theorem SB.zL (ok:Nat->Bool) (b:SB):(b.cv ok).er=b.er.cv ok:=by
 cases b with
 |box cs=>simp only[SB.cv,SB.er,ar.cv,L4]
 |row gr m ts xs=>rfl
def yY (ok:Nat->Bool) (env:Nat->SV):List Nat->(Nat->SV)
 |[]=>fun _=>.one .bg
 |s::ss=>av (yY ok env ss) s ((env s).cv ok)
def uH (ok:Nat->Bool) (h:Nat->Option SB):List Nat->(Nat->Option SB)
 |[]=>fun _=>none
 |s::ss=>match ok s with
  |true=>match h s with
   |some b=>av (uH ok h ss) s (some (b.cv ok))
   |none=>uH ok h ss
  |false=>uH ok h ss
def rq (ok:Nat->Bool):List Nat->(Nat->Bool)
 |[]=>fun _=>false
 |s::ss=>match ok s with
  |true=>av (rq ok ss) s true
  |false=>rq ok ss
theorem abc (ok:Nat->Bool) (env:Nat->SV):∀l,pj (yY ok env l)=uu ok (pj env) l
 |[]=>rfl
 |s::ss=>by simp only[yY,uu,vo,abc ok env ss,SV.zL];rfl
theorem Ko (ok:Nat->Bool) (h:Nat->Option SB):∀l,cD (uH ok h l)=p9 ok (cD h) l
 |[]=>rfl
 |s::ss=>by
  simp only[uH,p9]
  cases ok s with
  |false=>simp only[Ko ok h ss,Bool.false_eq_true,if_false]
  |true=>
   have:cD h s=(h s).map SB.er:=rfl
   simp only[if_true,this]
   cases h s with
   |none=>simp only[Option.map_none,Ko ok h ss]
   |some b=>simp only[Hu,Ko ok h ss,Option.map_some,SB.zL]
theorem abd (ok:Nat->Bool):∀l,rq ok l=uv ok l
 |[]=>rfl
 |s::ss=>by
  simp only[rq,uv]
  cases ok s<;>simp[abd ok ss]
theorem TZ (ok:Nat->Bool) (env:Nat->SV):∀(l:List Nat) (s:Nat),s∉l->yY ok env l s=.one .bg
 |[],s,_=>rfl
 |a::l,s,h=>by
  simp only[List.mem_cons,not_or] at h
  simp only[yY,bS _ _ _ _ h.1,TZ ok env l s h.2]
theorem T0 (ok:Nat->Bool) (hp:Nat->Option SB):∀(l:List Nat) (s:Nat),s∉l->uH ok hp l s=none
 |[],s,_=>rfl
 |a::l,s,h=>by
  simp only[List.mem_cons,not_or] at h
  have ih:=T0 ok hp l s h.2
  simp only[uH]
  cases ok a with
  |false=>exact ih
  |true=>
   cases hp a with
   |none=>exact ih
   |some b=>simp only[bS _ _ _ _ h.1];exact ih
theorem T1 (ok:Nat->Bool):∀(l:List Nat) (s:Nat),s∉l->rq ok l s=false
 |[],s,_=>rfl
 |a::l,s,h=>by
  simp only[List.mem_cons,not_or] at h
  have ih:=T1 ok l s h.2
  simp only[rq]
  cases ok a with
  |false=>exact ih
  |true=>simp only[bS _ _ _ _ h.1];exact ih
def SC.wH (n:Nat):SC->Bool
 |.ptr m _ _ _=>Nat.beq m n
 |.sl m _ _ _=>Nat.beq m n
 |.br m _ _ _ _ _=>Nat.beq m n
 |.cr m _ _ _ _ _=>Nat.beq m n
 |_=>false
def SC.f6 (n:Nat):SC->Bool
 |.fn _ bR=>bR.any (SC.wH n)
 |.ptr m _ _ _=>Nat.beq m n
 |.sl m _ _ _=>Nat.beq m n
 |.br m _ _ _ _ _=>Nat.beq m n
 |.cr m _ _ _ _ _=>Nat.beq m n
 |.v _ _=>false
 |.nil _=>false
 |.bT _ _ _=>false
 |.bg=>false
theorem Cu (m n:Nat):(m==n)=Nat.beq m n:=by
 rw[Bool.eq_iff_iff,beq_iff_eq]
 exact⟨fun h=>by rw[h];exact Nat.beq_refl n,Nat.eq_of_beq_eq_true⟩
theorem SC.amM (n:Nat) (c:SC):c.er.wH n=c.wH n:=by
 cases c<;>simp[SC.er,ah.wH,SC.wH,Cu]
theorem SC.JX (n:Nat) (c:SC):c.er.f6 n=c.f6 n:=by
 cases c with
 |fn f bR=>
  simp only[SC.er,SC.CN,ah.f6,SC.f6,List.any_map]
  congr 1
  funext c
  exact SC.amM n c
 |ptr m _ _ _=>exact Cu m n
 |sl m _ _ _=>exact Cu m n
 |br m _ _ _ _ _=>exact Cu m n
 |cr m _ _ _ _ _=>exact Cu m n
 |_=>rfl
def SV.f6 (n:Nat):SV->Bool
 |.one c=>c.f6 n
 |.agg cs=>cs.any (SC.f6 n)
 |.bj xs=>xs.any fun x=>x.2.any (SC.f6 n)
theorem Rf (n:Nat) (cs:List SC):(cs.map SC.er).any (ah.f6 n)=cs.any (SC.f6 n):=by
 rw[List.any_map]
 congr 1
 funext c
 exact SC.JX n c
theorem SV.JX (n:Nat) (v:SV):v.er.f6 n=v.f6 n:=by
 cases v with
 |one c=>exact SC.JX n c
 |agg cs=>exact Rf n cs
 |bj xs=>
  simp only[SV.er,ai.f6,SV.f6,List.any_map]
  congr 1
  funext x
  exact Rf n x.2
def aan (n:Nat):Option SB->Bool
 |some (.box cs)=>cs.any (SC.f6 n)
 |_=>false
def Ht (n:Nat):List Nat->Bool
 |[]=>false
 |m::l=>match Nat.beq n m with
  |true=>true
  |false=>Ht n l
theorem V2 (n:Nat):∀l:List Nat,Ht n l=l.contains n
 |[]=>rfl
 |m::l=>by
  simp only[Ht,List.contains_cons]
  have e:(n==m)=Nat.beq n m:=by cases h:Nat.beq n m with
   |true=>simpa using Nat.eq_of_beq_eq_true h
   |false=>simp;intro h';rw[h',Nat.beq_refl] at h;cases h
  rw[e,V2 n l]
  cases Nat.beq n m<;>rfl
def af.h9 (σ:af) (ke kh:List Nat):Nat->Bool:=fun n=>(σ.h n).isSome&&Ht n kh&&(Nat.ble aJ n||ke.any (fun s=>(σ.env s).f6 n)||kh.any fun k=>aan n (σ.h k))
theorem af.alM (σ:af) (ke kh:List Nat):σ.er.h9 ke kh=σ.h9 ke kh:=by
 funext n
 simp only[St.h9,af.h9]
 have h1:(σ.er.h n).isSome=(σ.h n).isSome:=V9 σ.h n
 have h2:(fun s=>(σ.er.env s).f6 n)=fun s=>(σ.env s).f6 n:=by funext s;exact SV.JX n _
 have h3:(fun k=>match σ.er.h k with|some (.box cs)=>cs.any (·.f6 n)|_=>false)=fun k=>aan n (σ.h k):=by
  funext k
  have:σ.er.h k=(σ.h k).map SB.er:=rfl
  rw[this]
  cases σ.h k with
  |none=>rfl
  |some b=>cases b with
   |box cs=>exact Rf n cs
   |row gr m ts xs=>rfl
 rw[h1,h2,V2,Bool.and_comm (x:=(σ.h n).isSome)]
 exact congrArg (fun g:Nat->Bool=>(kh.contains n&&(σ.h n).isSome&&((Nat.ble aJ n||ke.any fun s=>SV.f6 n (σ.env s))||kh.any g))) h3
def af.gF (σ:af) (ke kh:List Nat):af:=
 {env:=yY (σ.h9 ke kh) σ.env ke,h:=uH (σ.h9 ke kh) σ.h kh,used:=fun n=>Nat.ble aJ n||rq (σ.h9 ke kh) kh n}
theorem af.Rk (σ:af) (ke kh:List Nat):(σ.gF ke kh).er=σ.er.gF ke kh:=by
 simp only[af.gF,St.gF,af.alM]
 have e1:=abc (σ.h9 ke kh) σ.env ke
 have e2:=Ko (σ.h9 ke kh) σ.h kh
 have e3:=abd (σ.h9 ke kh) kh
 show St.mk (pj (yY (σ.h9 ke kh) σ.env ke)) (cD (uH (σ.h9 ke kh) σ.h kh)) (fun n=>Nat.ble aJ n||rq (σ.h9 ke kh) kh n)=_
 rw[e1,e2,e3]
 rfl
def s7 (x c n:Nat):Nat:=match Nat.beq n x with|true=>c|false=>n
theorem EW (x c n:Nat):s7 x c n=mW x c n:=by
 unfold s7 mW
 cases h:Nat.beq n x with
 |true=>rw[if_pos (Nat.eq_of_beq_eq_true h)]
 |false=>rw[if_neg (fun e=>by rw[e,Nat.beq_refl] at h;cases h)]
def SC.nQ (x c:Nat):SC->SC
 |.ptr n k sz off=>.ptr (s7 x c n) k sz off
 |.sl n sz lo len=>.sl (s7 x c n) sz lo len
 |.br n k ax off sz len=>.br (s7 x c n) k ax off sz len
 |.cr n k ax off sz i=>.cr (s7 x c n) k ax off sz i
 |y=>y
def SC.aX (x c:Nat):SC->SC
 |.fn f bR=>.fn f (bR.map (SC.nQ x c))
 |.ptr n k sz off=>.ptr (s7 x c n) k sz off
 |.sl n sz lo len=>.sl (s7 x c n) sz lo len
 |.br n k ax off sz len=>.br (s7 x c n) k ax off sz len
 |.cr n k ax off sz i=>.cr (s7 x c n) k ax off sz i
 |.v t y=>.v t y
 |.nil ts=>.nil ts
 |.bT ts y off=>.bT ts y off
 |.bg=>.bg
theorem SC.amR (x c:Nat) (y:SC):(y.nQ x c).er=y.er.nQ x c:=by
 cases y<;>simp[SC.nQ,SC.er,ah.nQ,EW]
theorem SC.wJ (x c:Nat) (y:SC):(y.aX x c).er=y.er.aX x c:=by
 cases y with
 |fn f bR=>
  simp only[SC.aX,SC.er,ah.aX,SC.CN,List.map_map]
  congr 1
  exact List.map_congr_left fun y _=>SC.amR x c y
 |ptr n k sz off=>simp only[SC.aX,SC.er,ah.aX,ah.nQ,EW]
 |sl n sz lo len=>simp only[SC.aX,SC.er,ah.aX,ah.nQ,EW]
 |br n k ax off sz len=>simp only[SC.aX,SC.er,ah.aX,ah.nQ,EW]
 |cr n k ax off sz i=>simp only[SC.aX,SC.er,ah.aX,ah.nQ,EW]
 |_=>rfl
theorem Ri (x c:Nat) (cs:List SC):(cs.map (SC.aX x c)).map SC.er=(cs.map SC.er).map (ah.aX x c):=by
 simp only[List.map_map]
 exact List.map_congr_left fun y _=>SC.wJ x c y
def SV.aX (x c:Nat):SV->SV
 |.one y=>.one (y.aX x c)
 |.agg ys=>.agg (ys.map (SC.aX x c))
 |.bj ys=>.bj (ys.map fun y=>(y.1,y.2.map (SC.aX x c)))
theorem SV.wJ (x c:Nat) (v:SV):(v.aX x c).er=v.er.aX x c:=by
 cases v with
 |one y=>simp only[SV.aX,SV.er,ai.aX,SC.wJ]
 |agg cs=>simp only[SV.aX,SV.er,ai.aX,Ri]
 |bj xs=>
  simp only[SV.aX,SV.er,ai.aX,List.map_map]
  congr 1
  exact List.map_congr_left fun y _=>by simp only[Function.comp];rw[Ri]
def SB.aX (x c:Nat):SB->SB
 |.box cs=>.box (cs.map (SC.aX x c))
 |.row gr m ts xs=>.row gr m ts xs
theorem SB.wJ (x c:Nat) (b:SB):(b.aX x c).er=b.er.aX x c:=by
 cases b with
 |box cs=>simp only[SB.aX,SB.er,ar.aX,Ri]
 |row gr m ts xs=>rfl
def af.aX (σ:af) (x c:Nat):Option af:=
  match Nat.beq x c with
  |true=>some σ
  |false=>match Nat.ble aJ x with
   |true=>some σ
   |false=>match σ.used c with
    |true=>none
    |false=>some
     {env:=fun s=>(σ.env s).aX x c
      h:=fun n=>match Nat.beq n c with
        |true=>(σ.h x).map (SB.aX x c)
        |false=>match Nat.beq n x with
         |true=>none
         |false=>(σ.h n).map (SB.aX x c)
      used:=fun n=>match Nat.beq n c with
        |true=>σ.used x
        |false=>match Nat.beq n x with
         |true=>false
         |false=>σ.used n}
theorem wB {m n:Nat} (h:Nat.beq m n=false):m≠n:=fun e=>by rw[e,Nat.beq_refl] at h;cases h
theorem af.wJ {σ σ1:af} {x c:Nat} (h:σ.aX x c=some σ1):σ.er.aX x c=some σ1.er:=by
 unfold af.aX at h
 split at h
 ·rename_i e
  injection h with h
  subst h
  simp[St.aX,Nat.eq_of_beq_eq_true e]
 ·rename_i e
  split at h
  ·rename_i hx
   injection h with h
   subst h
   simp only[St.aX,if_neg (wB e),hx,if_true]
  rename_i hx
  split at h
  ·cases h
  ·rename_i hu
   injection h with h
   subst h
   have lI:σ.er.used c=false:=hu
   simp only[St.aX,if_neg (wB e),hx,lI,Bool.false_eq_true,if_false]
   congr 1
   have mm:∀o:Option SB,(o.map (SB.aX x c)).map SB.er=(o.map SB.er).map (·.aX x c):=by
    intro o;cases o with
    |none=>rfl
    |some b=>simp only[Option.map_some,SB.wJ]
   have e1:(fun s=>(σ.er.env s).aX x c)=pj (fun s=>(σ.env s).aX x c):=by
    funext s;exact(SV.wJ x c (σ.env s)).symm
   have e2:(fun n=>if n=c then(σ.er.h x).map (·.aX x c) else if n=x then none else(σ.er.h n).map (·.aX x c))=cD (fun n=>match Nat.beq n c with
     |true=>(σ.h x).map (SB.aX x c)
     |false=>match Nat.beq n x with
      |true=>none
      |false=>(σ.h n).map (SB.aX x c)):=by
    funext n
    simp only[cD]
    cases hc:Nat.beq n c with
    |true=>rw[if_pos (Nat.eq_of_beq_eq_true hc)];exact(mm (σ.h x)).symm
    |false=>
     rw[if_neg (wB hc)]
     cases hx:Nat.beq n x with
     |true=>rw[if_pos (Nat.eq_of_beq_eq_true hx)];rfl
     |false=>rw[if_neg (wB hx)];exact(mm (σ.h n)).symm
   have e3:(fun n=>if n=c then σ.er.used x else if n=x then false else σ.er.used n)=(fun n=>match Nat.beq n c with
     |true=>σ.used x
     |false=>match Nat.beq n x with
      |true=>false
      |false=>σ.used n):=by
    funext n
    cases hc:Nat.beq n c with
    |true=>rw[if_pos (Nat.eq_of_beq_eq_true hc)];rfl
    |false=>
     rw[if_neg (wB hc)]
     cases hx:Nat.beq n x with
     |true=>rw[if_pos (Nat.eq_of_beq_eq_true hx)]
     |false=>rw[if_neg (wB hx)];rfl
   rw[e1,e2,e3]
   rfl
abbrev Cn:=List (Bool×Nat×Nat×Nat×Mode×List Ty)
def Cn.er (cn:Cn):List (Bool×Nat×Nat×Nat×Mode):=cn.map fun x=>(x.1,x.2.1,x.2.2.1,x.2.2.2.1,x.2.2.2.2.1)
def af.ja (σ:af) (c:Nat):Mode->af
 |.aE=>match σ.h c with
  |some (.row gr .aa ts xs)=>σ.cX c (.row gr .aE ts xs)
  |_=>σ
 |_=>σ
theorem af.adn (σ:af) (c:Nat) (m:Mode):(σ.ja c m).er=σ.er.ja c m:=by
 cases m with
 |live=>rfl
 |aa=>rfl
 |aE=>
  simp only[af.ja,St.ja]
  have hh:σ.er.h c=(σ.h c).map SB.er:=rfl
  rw[hh]
  cases σ.h c with
  |none=>rfl
  |some b=>cases b with
   |box cs=>rfl
   |row gr m ts xs=>cases m with
    |aa=>simp only[Option.map_some,SB.er,af.od]
    |live=>rfl
    |aE=>rfl
def wN (σ:af):Bool×Nat×Nat×Nat×Mode×List Ty->Option af
 |(true,n,j,c,m,us)=>match σ.h n with
  |some (.box cs)=>match cs[j]? with
   |some (.sl a _ _ _)=>(σ.aX a c).map fun σ1=>σ1.ja c m
   |some (.nil ts)=>match ts with
    |[]=>some σ
    |t::ts=>match σ.ins c (.row true m (t::ts) []) with
     |some σ1=>some (σ1.cX n (.box (cs.set j (.sl c (t::ts).length 0 0))))
     |none=>none
   |_=>some σ
  |_=>some σ
 |(false,n,j,c,m,us)=>match σ.env n with
  |.one (.sl a _ _ _)=>(σ.aX a c).map fun σ1=>σ1.ja c m
  |.one (.nil ts)=>match ts with
   |[]=>some σ
   |t::ts=>match σ.ins c (.row true m (t::ts) []) with
    |some σ1=>some (σ1.put (some n) (.one (.sl c (t::ts).length 0 0)))
    |none=>none
  |_=>some σ
theorem abb {σ σ1:af} {a c:Nat} {m:Mode} (h:(σ.aX a c).map (fun σ1=>σ1.ja c m)=some σ1):(σ.er.aX a c).map (fun σ1=>σ1.ja c m)=some σ1.er:=by
 rw[Option.map_eq_some_iff] at h
 obtain⟨σ2,e,rfl⟩:=h
 rw[af.wJ e,Option.map_some,af.adn]
theorem ann {σ σ1:af} {x:Bool×Nat×Nat×Nat×Mode×List Ty} (h:wN σ x=some σ1):σ.er.canon (x.1,x.2.1,x.2.2.1,x.2.2.2.1,x.2.2.2.2.1)=some σ1.er:=by
 obtain⟨b,n,j,c,m,us⟩:=x
 cases b with
 |true=>
  simp only[wN] at h
  simp only[St.canon]
  have hh:σ.er.h n=(σ.h n).map SB.er:=rfl
  rw[hh]
  split at h
  ·rename_i cs hn
   simp only[hn,Option.map_some,SB.er,List.getElem?_map]
   split at h
   ·rename_i a _ _ _ hj
    simp only[hj,Option.map_some,SC.er]
    exact abb h
   ·rename_i ts hj
    simp only[hj,Option.map_some,SC.er]
    split at h
    ·injection h with h;subst h;rfl
    ·rename_i t ts
     split at h
     ·rename_i σ2 e
      injection h with h
      subst h
      have i:=af.rP e
      rw[show(SB.row true m (t::ts) []).er=ar.row true m (t::ts).length [] from rfl] at i
      simp only[List.length_cons,Nat.zero_lt_succ,if_true] at i⊢
      rw[i]
      simp only[af.od,SB.er,List.map_set,SC.er,List.length_cons]
     ·cases h
   ·rename_i hs hz
    injection h with h
    subst h
    cases hj:cs[j]? with
    |none=>rfl
    |some y=>cases y<;>first|rfl|(exfalso;exact hs _ _ _ _ hj)|(exfalso;exact hz _ hj)
  ·rename_i hb
   injection h with h
   subst h
   cases hn:σ.h n with
   |none=>rfl
   |some b=>cases b with
    |box cs=>exact absurd hn (hb cs)
    |row gr m ts xs=>rfl
 |false=>
  simp only[wN] at h
  simp only[St.canon]
  have hh:σ.er.env n=(σ.env n).er:=rfl
  rw[hh]
  split at h
  ·rename_i a _ _ _ hn
   simp only[hn,SV.er,SC.er]
   exact abb h
  ·rename_i ts hn
   simp only[hn,SV.er,SC.er]
   split at h
   ·injection h with h;subst h;rfl
   ·rename_i t ts
    split at h
    ·rename_i σ2 e
     injection h with h
     subst h
     have i:=af.rP e
     rw[show(SB.row true m (t::ts) []).er=ar.row true m (t::ts).length [] from rfl] at i
     simp only[List.length_cons,Nat.zero_lt_succ,if_true] at i⊢
     rw[i]
     simp only[af.c6,SV.er,SC.er,List.length_cons]
    ·cases h
  ·rename_i hs hz
   injection h with h
   subst h
   cases hn:σ.env n with
   |one y=>cases y<;>first|rfl|(exfalso;exact hs _ _ _ _ hn)|(exfalso;exact hz _ hn)
   |_=>rfl
def BK (σ:af):Cn->Option af
 |[]=>some σ
 |x::l=>match wN σ x with
  |some σ1=>BK σ1 l
  |none=>none
theorem aaD:∀{cn:Cn} {σ σ1:af},BK σ cn=some σ1->σ.er.rI cn.er=some σ1.er
 |[],σ,σ1,h=>by simp only[BK] at h;injection h with h;subst h;rfl
 |x::l,σ,σ1,h=>by
  simp only[BK] at h
  split at h
  ·rename_i σ2 e
   have i:=ann e
   have j:=aaD h
   simp only[Cn.er] at j
   simp only[Cn.er,List.map_cons,St.rI,i,j]
  ·cases h
section
variable {ρ:Type}
def yH (n:Nat) (k:Nat->Option ρ):List Nat->Option ρ
 |[]=>k n
 |c::l=>match Nat.beq n c with
  |true=>k c
  |false=>yH n k l
theorem ZL (n:Nat) (k:Nat->Option ρ):∀l,yH n k l=k n
 |[]=>rfl
 |c::l=>by
  simp only[yH]
  split
  ·rename_i e;rw[Nat.eq_of_beq_eq_true e]
  ·exact ZL n k l
def Nc (kh:List Nat) (c:SC) (k:SC->Option ρ):Option ρ:=
 match c with
 |.v t x=>k (.v t x)
 |.nil ts=>k (.nil ts)
 |.ptr n kk sz off=>yH n (fun n=>k (.ptr n kk sz off)) kh
 |.bT ts x off=>k (.bT ts x off)
 |.sl n sz lo len=>yH n (fun n=>k (.sl n sz lo len)) kh
 |.br n a b c d e=>yH n (fun n=>k (.br n a b c d e)) kh
 |.cr n a b c d e=>yH n (fun n=>k (.cr n a b c d e)) kh
 |.fn f bR=>k (.fn f bR)
 |.bg=>k .bg
theorem WR (kh:List Nat) (c:SC) (k:SC->Option ρ):Nc kh c k=k c:=by
 cases c<;>first|rfl|exact ZL _ _ _
def C0 (kh:List Nat):List SC->(List SC->Option ρ)->Option ρ
 |[],k=>k []
 |c::cs,k=>Nc kh c fun c=>C0 kh cs fun cs=>k (c::cs)
theorem Nd (kh:List Nat):∀(cs:List SC) (k:List SC->Option ρ),C0 kh cs k=k cs
 |[],k=>rfl
 |c::cs,k=>by simp only[C0,WR,Nd kh cs]
def tA (kh:List Nat) (env:Nat->SV):List Nat->(List (Nat×SV)->Option ρ)->Option ρ
 |[],k=>k []
 |s::ss,k=>match env s with
  |.one .bg=>tA kh env ss k
  |.one c=>Nc kh c fun c=>tA kh env ss fun l=>k ((s,.one c)::l)
  |.agg cs=>C0 kh cs fun cs=>tA kh env ss fun l=>k ((s,.agg cs)::l)
  |.bj xs=>tA kh env ss fun l=>k ((s,.bj xs)::l)
def tB (kh:List Nat) (h:Nat->Option SB):List Nat->(List (Nat×Option SB)->Option ρ)->Option ρ
 |[],k=>k []
 |n::ns,k=>match h n with
  |none=>tB kh h ns k
  |some (.box cs)=>C0 kh cs fun cs=>tB kh h ns fun l=>k ((n,some (.box cs))::l)
  |some (.row gr m ts xs)=>tB kh h ns fun l=>k ((n,some (.row gr m ts xs))::l)
def xQ (u:Nat->Bool):List Nat->(List Nat->Option ρ)->Option ρ
 |[],k=>k []
 |n::ns,k=>match u n with
  |true=>xQ u ns fun l=>k (n::l)
  |false=>xQ u ns k
def uM:List Nat->Nat->Bool
 |[],n=>Nat.ble aJ n
 |m::l,n=>match Nat.beq n m with
  |true=>true
  |false=>uM l n
def af.zY (ke kh:List Nat) (σ:af) (k:af->Option ρ):Option ρ:=
 tA kh σ.env ke fun le=>tB kh σ.h kh fun lh=>xQ σ.used kh fun lu=>k ⟨kQ le,jf lh,uM lu⟩
structure gK (ke kh:List Nat) (σ:af):Prop where
 e:∀s,s∉ke->σ.env s=.one .bg
 h:∀n,n∉kh->σ.h n=none
 u:∀n,n∉kh->σ.used n=Nat.ble aJ n
 p:∀n,σ.used n=false->Nat.ble aJ n=false
theorem WS (kh:List Nat) (env:Nat->SV):∀(ss:List Nat) (k:List (Nat×SV)->Option ρ),∃l:List (Nat×SV),tA kh env ss k=k l/\∀s,kQ l s=if s∈ss then env s else .one .bg
 |[],k=>⟨[],rfl,fun s=>by simp[kQ]⟩
 |a::ss,k=>by
  have cq:∀v:SV,env a=v->(∀k':List (Nat×SV)->Option ρ,∃l,tA kh env ss k'=k' l/\∀s,kQ l s=if s∈ss then env s else .one .bg)->
    ∃l:List (Nat×SV),tA kh env ss (fun l=>k ((a,v)::l))=k l/\∀s,kQ l s=if s∈a::ss then env s else .one .bg:=by
   intro v hv ih
   obtain⟨l,h1,h2⟩:=ih fun l=>k ((a,v)::l)
   refine⟨(a,v)::l,h1,fun s=>?_⟩
   simp only[kQ,iE]
   split
   ·rename_i e
    subst e
    rw[if_pos (by simp)]
    exact hv.symm
   ·rename_i aA
    rw[h2 s]
    by_cases hs:s∈ss
    ·rw[if_pos hs,if_pos (by simp[hs])]
    ·rw[if_neg hs,if_neg (by simp[hs,aA])]
  have ih:=fun k':List (Nat×SV)->Option ρ=>WS kh env ss k'
  simp only[tA]
  split
  ·rename_i hv
   obtain⟨l,h1,h2⟩:=ih k
   refine⟨l,h1,fun s=>?_⟩
   rw[h2 s]
   by_cases hs:s∈ss
   ·rw[if_pos hs,if_pos (by simp[hs])]
   ·rw[if_neg hs]
    by_cases vK:s=a
    ·subst vK;rw[if_pos (by simp),hv]
    ·rw[if_neg (by simp[hs,vK])]
  ·rename_i c hc hv
   rw[WR]
   exact cq _ hv ih
  ·rename_i cs hv
   rw[Nd]
   exact cq _ hv ih
  ·rename_i xs hv
   exact cq _ hv ih
theorem WT (kh:List Nat) (h:Nat->Option SB):∀(ns:List Nat) (k:List (Nat×Option SB)->Option ρ),∃l:List (Nat×Option SB),tB kh h ns k=k l/\∀n,jf l n=if n∈ns then h n else none
 |[],k=>⟨[],rfl,fun s=>by simp[jf]⟩
 |a::ns,k=>by
  have cq:∀v:Option SB,h a=v->(∀k':List (Nat×Option SB)->Option ρ,∃l,tB kh h ns k'=k' l/\∀s,jf l s=if s∈ns then h s else none)->
    ∃l:List (Nat×Option SB),tB kh h ns (fun l=>k ((a,v)::l))=k l/\∀s,jf l s=if s∈a::ns then h s else none:=by
   intro v hv ih
   obtain⟨l,h1,h2⟩:=ih fun l=>k ((a,v)::l)
   refine⟨(a,v)::l,h1,fun s=>?_⟩
   simp only[jf,iE]
   split
   ·rename_i e
    subst e
    rw[if_pos (by simp)]
    exact hv.symm
   ·rename_i aA
    rw[h2 s]
    by_cases hs:s∈ns
    ·rw[if_pos hs,if_pos (by simp[hs])]
    ·rw[if_neg hs,if_neg (by simp[hs,aA])]
  have ih:=fun k':List (Nat×Option SB)->Option ρ=>WT kh h ns k'
  simp only[tB]
  split
  ·rename_i hv
   obtain⟨l,h1,h2⟩:=ih k
   refine⟨l,h1,fun s=>?_⟩
   rw[h2 s]
   by_cases hs:s∈ns
   ·rw[if_pos hs,if_pos (by simp[hs])]
   ·rw[if_neg hs]
    by_cases vK:s=a
    ·subst vK;rw[if_pos (by simp),hv]
    ·rw[if_neg (by simp[hs,vK])]
  ·rename_i cs hv
   rw[Nd]
   exact cq _ hv ih
  ·rename_i gr m ts xs hv
   exact cq _ hv ih
theorem Nf (u:Nat->Bool) (hp:∀n,u n=false->Nat.ble aJ n=false):∀(ns:List Nat) (k:List Nat->Option ρ),∃l:List Nat,xQ u ns k=k l/\∀n,uM l n=if n∈ns then u n else Nat.ble aJ n
 |[],k=>⟨[],rfl,fun s=>by simp[uM]⟩
 |a::ns,k=>by
  simp only[xQ]
  split
  ·rename_i hv
   obtain⟨l,h1,h2⟩:=Nf u hp ns fun l=>k (a::l)
   refine⟨a::l,h1,fun s=>?_⟩
   simp only[uM]
   split
   ·rename_i e
    have:=Nat.eq_of_beq_eq_true e
    subst this
    rw[if_pos (by simp)]
    exact hv.symm
   ·rename_i e
    have aA:=wB e
    rw[h2 s]
    by_cases hs:s∈ns
    ·rw[if_pos hs,if_pos (by simp[hs])]
    ·rw[if_neg hs,if_neg (by simp[hs,aA])]
  ·rename_i hv
   obtain⟨l,h1,h2⟩:=Nf u hp ns k
   refine⟨l,h1,fun s=>?_⟩
   rw[h2 s]
   by_cases hs:s∈ns
   ·rw[if_pos hs,if_pos (by simp[hs])]
   ·rw[if_neg hs]
    by_cases vK:s=a
    ·subst vK;rw[if_pos (by simp),hv,hp _ hv]
    ·rw[if_neg (by simp[hs,vK])]
theorem HI {ke kh:List Nat} {σ:af} (W:gK ke kh σ) (k:af->Option ρ):σ.zY ke kh k=k σ:=by
 unfold af.zY
 obtain⟨le,e1,e2⟩:=WS kh σ.env ke fun le=>tB kh σ.h kh fun lh=>xQ σ.used kh fun lu=>k ⟨kQ le,jf lh,uM lu⟩
 rw[e1]
 obtain⟨lh,h1,h2⟩:=WT kh σ.h kh fun lh=>xQ σ.used kh fun lu=>k ⟨kQ le,jf lh,uM lu⟩
 rw[h1]
 obtain⟨lu,u1,u2⟩:=Nf σ.used W.p kh fun lu=>k ⟨kQ le,jf lh,uM lu⟩
 rw[u1]
 have a1:kQ le=σ.env:=by
  funext s
  rw[e2 s]
  split
  ·rfl
  ·rename_i hs;exact(W.e s hs).symm
 have a2:jf lh=σ.h:=by
  funext s
  rw[h2 s]
  split
  ·rfl
  ·rename_i hs;exact(W.h s hs).symm
 have a3:uM lu=σ.used:=by
  funext s
  rw[u2 s]
  split
  ·rfl
  ·rename_i hs;exact(W.u s hs).symm
 rw[a1,a2,a3]
theorem gK.gF (ke kh:List Nat) (σ:af):gK ke kh (σ.gF ke kh):=
 ⟨fun s hs=>TZ _ _ _ s hs,fun n hn=>T0 _ _ _ n hn,fun n hn=>by show(Nat.ble aJ n||rq _ _ n)=_;rw[T1 _ _ n hn,Bool.or_false],
  fun n hn=>by have bh:(Nat.ble aJ n||rq _ _ n)=false:=hn;simp only[Bool.or_eq_false_iff] at bh;exact bh.1⟩
theorem gK.aX {ke kh:List Nat} {σ σ1:af} {a c:Nat} (W:gK ke kh σ) (hc:c∈kh) (h:σ.aX a c=some σ1):gK ke kh σ1:=by
 unfold af.aX at h
 split at h
 ·injection h with h;subst h;exact W
 ·split at h
  ·injection h with h;subst h;exact W
  ·rename_i vJ
   split at h
   ·cases h
   ·rename_i Ii
    injection h with h
    subst h
    refine⟨fun s hs=>?_,fun n hn=>?_,fun n hn=>?_,fun n hn=>?_⟩
    ·show(σ.env s).aX a c=_
     rw[W.e s hs];rfl
    ·simp only
     split
     ·rename_i e;exact absurd (by rw[Nat.eq_of_beq_eq_true e];exact hc) hn
     ·split
      ·rfl
      ·rw[W.h n hn];rfl
    ·simp only
     split
     ·rename_i e;exact absurd (by rw[Nat.eq_of_beq_eq_true e];exact hc) hn
     ·split
      ·rename_i e;rw[Nat.eq_of_beq_eq_true e,vJ]
      ·exact W.u n hn
    ·simp only at hn
     split at hn
     ·rename_i e;rw[Nat.eq_of_beq_eq_true e];exact W.p c Ii
     ·split at hn
      ·rename_i e;rw[Nat.eq_of_beq_eq_true e,vJ]
      ·exact W.p n hn
theorem gK.ins {ke kh:List Nat} {σ σ1:af} {c:Nat} {b:SB} (W:gK ke kh σ) (hc:c∈kh) (h:σ.ins c b=some σ1):gK ke kh σ1:=by
 unfold af.ins at h
 split at h
 ·cases h
 ·rename_i Ii
  injection h with h
  subst h
  refine⟨W.e,fun n hn=>?_,fun n hn=>?_,fun n hn=>?_⟩
  ·show av σ.h c _ n=_
   rw[bS _ _ _ _ (fun e=>hn (by rw[e];exact hc))];exact W.h n hn
  ·show av σ.used c _ n=_
   rw[bS _ _ _ _ (fun e=>hn (by rw[e];exact hc))];exact W.u n hn
  ·have bh:av σ.used c true n=false:=hn
   by_cases e:n=c
   ·subst e;rw[bw] at bh;cases bh
   ·rw[bS _ _ _ _ e] at bh;exact W.p n bh
theorem gK.ja {ke kh:List Nat} {σ:af} (W:gK ke kh σ) (c:Nat) (m:Mode):gK ke kh (σ.ja c m):=by
 cases m with
 |live=>exact W
 |aa=>exact W
 |aE=>
  simp only[af.ja]
  split
  ·rename_i gr ts xs hn
   exact⟨W.e,fun n hk=>by
    show av σ.h c _ n=none
    have pB:n≠c:=fun e=>by subst e;rw[W.h n hk] at hn;cases hn
    rw[bS _ _ _ _ pB];exact W.h n hk,W.u,W.p⟩
  ·exact W
theorem gK.EA {ke kh:List Nat} {σ σ1:af} {a c:Nat} {m:Mode} (W:gK ke kh σ) (hc:c∈kh) (h:(σ.aX a c).map (fun σ1=>σ1.ja c m)=some σ1):gK ke kh σ1:=by
 rw[Option.map_eq_some_iff] at h
 obtain⟨σ2,e,rfl⟩:=h
 exact(W.aX hc e).ja c m
theorem gK.canon {ke kh:List Nat} {σ σ1:af} {x:Bool×Nat×Nat×Nat×Mode×List Ty} (W:gK ke kh σ) (hc:x.2.2.2.1∈kh) (h:wN σ x=some σ1):gK ke kh σ1:=by
 obtain⟨b,n,j,c,m,us⟩:=x
 simp only at hc
 have fq:some σ=some σ1->gK ke kh σ1:=fun h=>by injection h with h;subst h;exact W
 cases b with
 |true=>
  simp only[wN] at h
  split at h
  ·rename_i cs hn
   split at h
   ·exact W.EA hc h
   ·split at h
    ·exact fq h
    ·split at h
     ·rename_i σ2 e
      injection h with h
      subst h
      have W2:=W.ins hc e
      have N2:n∈kh:=by
       rcases Decidable.em (n∈kh) with h|h
       ·exact h
       ·rw[W.h n h] at hn;cases hn
      exact⟨W2.e,fun q hq=>by show av σ2.h n _ q=_;rw[bS _ _ _ _ (fun e=>hq (by rw[e];exact N2))];exact W2.h q hq,W2.u,W2.p⟩
     ·cases h
   ·exact fq h
  ·exact fq h
 |false=>
  simp only[wN] at h
  split at h
  ·exact W.EA hc h
  ·rename_i ts hn
   split at h
   ·exact fq h
   ·split at h
    ·rename_i σ2 e
     injection h with h
     subst h
     have W2:=W.ins hc e
     have N2:n∈ke:=by
      rcases Decidable.em (n∈ke) with h|h
      ·exact h
      ·rw[W.e n h] at hn;cases hn
     exact⟨fun q hq=>by show av σ2.env n _ q=_;rw[bS _ _ _ _ (fun e=>hq (by rw[e];exact N2))];exact W2.e q hq,W2.h,W2.u,W2.p⟩
    ·cases h
  ·exact fq h
def Kc (ke kh:List Nat):Cn->af->(af->Option ρ)->Option ρ
 |[],σ,k=>k σ
 |x::l,σ,k=>match wN σ x with
  |some σ1=>match List.elem x.2.2.2.1 kh with
   |true=>σ1.zY ke kh fun σ2=>Kc ke kh l σ2 k
   |false=>none
  |none=>none
theorem aaC {ke kh:List Nat}:∀{cn:Cn} {σ:af} {k:af->Option ρ} {r:ρ},gK ke kh σ->Kc ke kh cn σ k=some r->∃σ1,BK σ cn=some σ1/\k σ1=some r
 |[],σ,k,r,W,h=>⟨σ,rfl,h⟩
 |x::l,σ,k,r,W,h=>by
  simp only[Kc] at h
  split at h
  ·rename_i σ1 e
   split at h
   ·rename_i hm
    have W1:=W.canon (by simpa using hm) e
    rw[HI W1] at h
    obtain⟨σ2,h1,h2⟩:=aaC W1 h
    exact⟨σ2,by simp only[BK,e,h1],h2⟩
   ·cases h
  ·cases h
def BN (sh:iH) (kh:List Nat) (cn:Cn) (σ:af) (k:sh.L.D->Option ρ):Option ρ:=
 (σ.gF sh.ke kh).zY sh.ke kh fun σ1=>(σ1.gF sh.ke kh).zY sh.ke kh fun σ2=>Kc sh.ke kh cn σ2 fun f9=>(f9.gF sh.ke kh).zY sh.ke kh fun σ4=>sh.flat kh σ4 k
theorem Kg {sh:iH} {kh:List Nat} {cn:Cn} {σ:af} {k:sh.L.D->Option ρ} {r:ρ} (h:BN sh kh cn σ k=some r):
  ∃x,σ.er.head sh.ke kh cn.er=some (sh.un x).er/\k x=some r:=by
 unfold BN at h
 rw[HI (gK.gF _ _ _),HI (gK.gF _ _ _)] at h
 obtain⟨σ1,e,h⟩:=aaC (gK.gF _ _ _) h
 rw[HI (gK.gF _ _ _)] at h
 obtain⟨x,h1,h2⟩:=iH.oe h (fun s hs=>TZ _ _ _ s hs) (fun n hn=>⟨T0 _ _ _ n hn,by show(Nat.ble aJ n||rq _ _ n)=_;rw[T1 _ _ n hn,Bool.or_false]⟩)
 have i:=aaD e
 rw[af.Rk,af.Rk] at i
 exact⟨x,by simp only[St.head,i,<-h1,af.Rk],h2⟩
end
inductive bt where
 |skip
 |ae (qy:Bool) (ops:List ez)
 |pZ (ps:List (Nat×Nat)) (ops:List ez)
 |seq (a b:bt)
 |cond (c:cl) (a b:bt)
 |block (id:Nat) (c:bt)
 |join (sh:iH) (kh:List Nat) (cn:Cn) (c:bt)
 |loop (id:Nat) (sh:iH) (kh:List Nat) (cn:Cn) (c:bt)
 |exit (id:Nat)
 |ret
def bt.er:bt->kI
 |.skip=>.skip
 |.ae d ops=>.ae d (ops.map ez.er)
 |.pZ ps ops=>.pZ ps (ops.map ez.er)
 |.seq a b=>.seq a.er b.er
 |.cond c a b=>.cond c.er a.er b.er
 |.block id c=>.block id c.er
 |.join sh kh cn c=>.join sh.ke kh cn.er c.er
 |.loop id sh kh cn c=>.loop id sh.ke kh cn.er c.er
 |.exit id=>.exit id
 |.ret=>.ret
def af.PI (σ:af) (c:cl) (b:Bool):af:=
 match c with
 |.t n=>σ.lit n b
 |.k _=>σ
def vZ {X ρ:Type} (o:Option ρ):Option (X⊕ρ):=o.U fun r=>some (.inr r)
theorem AK {X ρ:Type} {o:Option ρ} {s:X⊕ρ} (h:vZ o=some s):∃r,o=some r/\s=.inr r:=by
 unfold vZ at h
 rw[eC] at h
 obtain⟨r,h1,h2⟩:=h
 injection h2 with h2
 exact⟨r,h1,h2.symm⟩
def kA (N:Nat) (T:List aG):bt->{ρ:Type}->af->(af->Option ρ)->(Nat->af->Option ρ)->(af->Option ρ)->Option ρ
 |.skip,_,σ,k,_,_=>k σ
 |.ae _ ops,_,σ,k,_,_=>qe T ops σ k
 |.pZ ps ops,_,σ,k,_,_=>qf T ps ops [] σ k
 |.seq a b,_,σ,k,ex,kr=>kA N T a σ (fun σ1=>kA N T b σ1 k ex kr) ex kr
 |.cond c a b,_,σ,k,ex,kr=>match σ.ev c with
  |.one (.v .bool t)=>aw t (kA N T a (σ.PI c true) k ex kr) (kA N T b (σ.PI c false) k ex kr)
  |_=>none
 |.block id c,_,σ,k,ex,kr=>kA N T c σ k (fun i σ1=>match Nat.beq i id with|true=>k σ1|false=>ex i σ1) kr
 |.join sh kh cn c,ρ,σ,k,ex,kr=>
  bL (kA N T c (ρ:=sh.L.D⊕ρ) σ (fun σ1=>BN sh kh cn σ1 fun x=>some (.inl x)) (fun i σ1=>vZ (ex i σ1)) (fun σ1=>vZ (kr σ1))) fun x=>k (sh.un x)
 |.loop id sh kh cn c,ρ,σ,k,ex,kr=>
  BN sh kh cn σ fun x0=>bd N (fun x=>kA N T c (ρ:=sh.L.D⊕ρ) (sh.un x) (fun σ1=>BN sh kh cn σ1 fun x'=>some (.inl x')) (fun i σ1=>vZ (ex i σ1)) (fun σ1=>vZ (kr σ1))) x0
 |.exit id,_,σ,_,ex,_=>ex id σ
 |.ret,_,σ,_,_,kr=>kr σ
def UW {ρ:Type} (k:af->Option ρ) (ex:Nat->af->Option ρ) (kr:af->Option ρ) (r:ρ):u6->Prop
 |.fe τ=>∃dI:af,τ=dI.er/\k dI=some r
 |.ext i τ=>∃dI:af,τ=dI.er/\ex i dI=some r
 |.ret τ=>∃dI:af,τ=dI.er/\kr dI=some r
theorem Zf {σ:af} {c:cl} {b:Bool} (h:σ.ev c=.one (.v .bool b)):(σ.PI c b).er=σ.er:=by
 cases c with
 |t n=>exact af.CL h
 |k v=>rfl
theorem rp {T:List aG}:∀(m:bt) {ρ:Type} {σ:af} {k:af->Option ρ} {ex:Nat->af->Option ρ} {kr:af->Option ρ} {r:ρ},kA aD T m σ k ex kr=some r->
    ∃o:u6,dw (cY T) m.er σ.er=some o/\UW k ex kr r o
  |.skip,ρ,σ,k,ex,kr,r,h=>⟨.fe σ.er,rfl,σ,rfl,h⟩
  |.ae d ops,ρ,σ,k,ex,kr,r,h=>by
   obtain⟨σ1,h1,h2⟩:=TF (h:qe T ops σ k=some r)
   exact⟨.fe σ1.er,by simp only[bt.er,dw,h1],σ1,rfl,h2⟩
  |.pZ ps ops,ρ,σ,k,ex,kr,r,h=>by
   obtain⟨σ1,fs,h1,h2,h3⟩:=TE (h:qf T ps ops [] σ k=some r)
   exact⟨.fe σ1.er,by simp only[bt.er,dw,h1,h2,cond_true],σ1,rfl,h3⟩
  |.seq a b,ρ,σ,k,ex,kr,r,h=>by
   obtain⟨o,h1,h2⟩:=rp a (h:kA aD T a σ (fun σ1=>kA aD T b σ1 k ex kr) ex kr=some r)
   cases o with
   |fe τ=>
    obtain⟨dI,rfl,h2⟩:=h2
    obtain⟨o2,h3,h4⟩:=rp b h2
    exact⟨o2,by simp only[bt.er,dw,h1,h3],h4⟩
   |ext i τ=>exact⟨.ext i τ,by simp only[bt.er,dw,h1],h2⟩
   |ret τ=>exact⟨.ret τ,by simp only[bt.er,dw,h1],h2⟩
  |.cond c a b,ρ,σ,k,ex,kr,r,h=>by
   simp only[kA] at h
   split at h
   · rename_i t hc
     have cz:σ.er.ev c.er=.one (.c (.bool t)):=by rw[af.cT,hc];rfl
     cases ht:(t:Bool) with
     |true=>
      rw[ht] at h
      simp only[CC] at h
      obtain⟨o,h1,h2⟩:=rp a h
      rw[Zf (by rw[hc,ht])] at h1
      exact⟨o,by simp only[bt.er,dw,cz,ht,if_true,h1],h2⟩
     |false=>
      rw[ht] at h
      simp only[Ha] at h
      obtain⟨o,h1,h2⟩:=rp b h
      rw[Zf (by rw[hc,ht])] at h1
      exact⟨o,by simp only[bt.er,dw,cz,ht,Bool.false_eq_true,if_false,h1],h2⟩
   · cases h
  |.block id c,ρ,σ,k,ex,kr,r,h=>by
   obtain⟨o,h1,h2⟩:=rp c (h:kA aD T c σ k (fun i σ1=>match Nat.beq i id with|true=>k σ1|false=>ex i σ1) kr=some r)
   cases o with
   |fe τ=>exact⟨.fe τ,by simp only[bt.er,dw,h1],h2⟩
   |ret τ=>exact⟨.ret τ,by simp only[bt.er,dw,h1],h2⟩
   |ext i τ=>
    obtain⟨dI,rfl,h2⟩:=h2
    simp only at h2
    split at h2
    · rename_i e
      exact⟨.fe dI.er,by simp only[bt.er,dw,h1,if_pos (Nat.eq_of_beq_eq_true e)],dI,rfl,h2⟩
    · rename_i e
      exact⟨.ext i dI.er,by simp only[bt.er,dw,h1,if_neg (wB e)],dI,rfl,h2⟩
  |.join sh kh cn c,ρ,σ,k,ex,kr,r,h=>by
   simp only[kA,bL,Option.bind_eq_some_iff] at h
   obtain⟨s,hs,h⟩:=h
   obtain⟨o,h1,h2⟩:=rp c hs
   cases o with
   |fe τ=>
    obtain⟨dI,rfl,h2⟩:=h2
    obtain⟨x,h3,h4⟩:=Kg h2
    injection h4 with h4
    subst h4
    exact⟨.fe (sh.un x).er,by simp only[bt.er,dw,h1,h3],sh.un x,rfl,h⟩
   |ext i τ=>
    obtain⟨dI,rfl,h2⟩:=h2
    obtain⟨y,h3,rfl⟩:=AK h2
    injection h with h
    subst h
    exact⟨.ext i dI.er,by simp only[bt.er,dw,h1],dI,rfl,h3⟩
   |ret τ=>
    obtain⟨dI,rfl,h2⟩:=h2
    obtain⟨y,h3,rfl⟩:=AK h2
    injection h with h
    subst h
    exact⟨.ret dI.er,by simp only[bt.er,dw,h1],dI,rfl,h3⟩
  |.loop id sh kh cn c,ρ,σ,k,ex,kr,r,h=>by
   simp only[kA] at h
   obtain⟨x0,h0,h⟩:=Kg h
   simp only[bt.er,dw]
   have cq:∀(n:Nat) (x0:sh.L.D) (KO:St),KO.head sh.ke kh cn.er=some (sh.un x0).er->
       bd n (fun x=>kA aD T c (ρ:=sh.L.D⊕ρ) (sh.un x) (fun σ1=>BN sh kh cn σ1 fun x'=>some (.inl x')) (fun i σ1=>vZ (ex i σ1)) (fun σ1=>vZ (kr σ1))) x0=some r->
       ∃o:u6,Be n (fun σ=>match σ.head sh.ke kh cn.er with|some σ1=>dw (cY T) c.er σ1|none=>none) KO=some o/\UW k ex kr r o:=by
    intro n
    induction n with
    |zero=>intro x0 KO h0 h;simp[bd] at h
    |succ n ih=>
     intro x0 KO h0 h
     simp only[bd] at h
     simp only[Be,h0]
     split at h
     · rename_i x' hb
       obtain⟨o,h1,h2⟩:=rp c hb
       cases o with
       |fe τ=>
        obtain⟨dI,rfl,h2⟩:=h2
        obtain⟨x2,h3,h4⟩:=Kg h2
        injection h4 with h4
        injection h4 with h4
        subst h4
        simp only[h1]
        exact ih x2 _ h3 h
       |ext i τ=>
        obtain⟨dI,rfl,h2⟩:=h2
        obtain⟨y,_,e⟩:=AK h2
        cases e
       |ret τ=>
        obtain⟨dI,rfl,h2⟩:=h2
        obtain⟨y,_,e⟩:=AK h2
        cases e
     · rename_i y hb
       injection h with h
       subst h
       obtain⟨o,h1,h2⟩:=rp c hb
       cases o with
       |fe τ=>
        obtain⟨dI,rfl,h2⟩:=h2
        obtain⟨x2,h3,h4⟩:=Kg h2
        injection h4 with h4
        cases h4
       |ext i τ=>
        obtain⟨dI,rfl,h2⟩:=h2
        obtain⟨y',h3,e⟩:=AK h2
        injection e with e
        subst e
        exact⟨.ext i dI.er,by simp only[h1],dI,rfl,h3⟩
       |ret τ=>
        obtain⟨dI,rfl,h2⟩:=h2
        obtain⟨y',h3,e⟩:=AK h2
        injection e with e
        subst e
        exact⟨.ret dI.er,by simp only[h1],dI,rfl,h3⟩
     · cases h
   exact cq aD x0 σ.er h0 h
  |.exit id,ρ,σ,k,ex,kr,r,h=>⟨.ext id σ.er,rfl,σ,rfl,h⟩
  |.ret,ρ,σ,k,ex,kr,r,h=>⟨.ret σ.er,rfl,σ,rfl,h⟩
end Go.Am
