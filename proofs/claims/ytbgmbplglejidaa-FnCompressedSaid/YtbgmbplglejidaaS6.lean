/- S6: heads and code of the typed evaluator. No condition. -/
import Derived.Test.YtbgmbplglejidaaS5
set_option linter.unusedVariables false
set_option linter.unusedSimpArgs false
namespace Go.Am
def SC.fx (ok:Nat->Bool):SC->SC
 |.ptr n k sz off=>match ok n with|true=>.ptr n k sz off|false=>.bn
 |.sl n sz lo len=>match ok n with|true=>.sl n sz lo len|false=>.bn
 |.bx n k aA off sz len=>match ok n with|true=>.bx n k aA off sz len|false=>.bn
 |.cV n k aA off sz i=>match ok n with|true=>.cV n k aA off sz i|false=>.bn
 |x=>x
def SC.cX (ok:Nat->Bool):SC->SC
 |.fn f cA=>.fn f (cA.map (SC.fx ok))
 |.v t x=>.v t x
 |.nil ts=>.nil ts
 |.ptr n k sz off=>SC.fx ok (.ptr n k sz off)
 |.cB ts x off=>.cB ts x off
 |.sl n sz lo len=>SC.fx ok (.sl n sz lo len)
 |.bx n k aA off sz len=>SC.fx ok (.bx n k aA off sz len)
 |.cV n k aA off sz i=>SC.fx ok (.cV n k aA off sz i)
 |.bn=>.bn
theorem SC.DD (ok:Nat->Bool) (c:SC):(c.fx ok).er=c.er.fx ok:=by
 cases c with
 |ptr n k sz off=>simp only[SC.fx,SC.er,ah.fx];cases ok n<;>rfl
 |sl n sz lo len=>simp only[SC.fx,SC.er,ah.fx];cases ok n<;>rfl
 |bx n k aA off sz len=>simp only[SC.fx,SC.er,ah.fx];cases ok n<;>rfl
 |cV n k aA off sz i=>simp only[SC.fx,SC.er,ah.fx];cases ok n<;>rfl
 |_=>rfl
theorem SC.AV (ok:Nat->Bool) (c:SC):(c.cX ok).er=c.er.cX ok:=by
 cases c with
 |fn f cA=>
  simp only[SC.cX,SC.er,ah.cX,SC.DW,List.map_map]
  congr 1
  exact List.map_congr_left fun c _=>SC.DD ok c
 |ptr n k sz off=>exact SC.DD ok (.ptr n k sz off)
 |sl n sz lo len=>exact SC.DD ok (.sl n sz lo len)
 |bx n k aA off sz len=>exact SC.DD ok (.bx n k aA off sz len)
 |cV n k aA off sz i=>exact SC.DD ok (.cV n k aA off sz i)
 |_=>rfl
def SV.cX (ok:Nat->Bool):SV->SV
 |.one c=>.one (c.cX ok)
 |.agg cs=>.agg (cs.map (SC.cX ok))
 |.bq xs=>.bq (xs.map fun x=>(x.1,x.2.map (SC.cX ok)))
theorem Nf (ok:Nat->Bool) (cs:List SC):(cs.map (SC.cX ok)).map SC.er=(cs.map SC.er).map (ah.cX ok):=by
 simp only[List.map_map]
 exact List.map_congr_left fun c _=>SC.AV ok c
theorem SV.AV (ok:Nat->Bool) (v:SV):(v.cX ok).er=v.er.cX ok:=by
 cases v with
 |one c=>simp only[SV.cX,SV.er,aj.cX,SC.AV]
 |agg cs=>simp only[SV.cX,SV.er,aj.cX,Nf]
 |bq xs=>
  simp only[SV.cX,SV.er,aj.cX,List.map_map]
  congr 1
  exact List.map_congr_left fun x _=>by simp only[Function.comp];rw[Nf]
def SB.cX (ok:Nat->Bool):SB->SB
 |.box cs=>.box (cs.map (SC.cX ok))
 |.row gr m ts xs=>.row gr m ts xs
theorem SB.AV (ok:Nat->Bool) (b:SB):(b.cX ok).er=b.er.cX ok:=by
 cases b with
 |box cs=>simp only[SB.cX,SB.er,ao.cX,Nf]
 |row gr m ts xs=>rfl
def zO (ok:Nat->Bool) (env:Nat->SV):List Nat->(Nat->SV)
 |[]=>fun _=>.one .bn
 |s::ss=>av (zO ok env ss) s ((env s).cX ok)
def vo (ok:Nat->Bool) (h:Nat->Option SB):List Nat->(Nat->Option SB)
 |[]=>fun _=>none
 |s::ss=>match ok s with
  |true=>match h s with
   |some b=>av (vo ok h ss) s (some (b.cX ok))
   |none=>vo ok h ss
  |false=>vo ok h ss
def sF (ok:Nat->Bool):List Nat->(Nat->Bool)
 |[]=>fun _=>false
 |s::ss=>match ok s with
  |true=>av (sF ok ss) s true
  |false=>sF ok ss
theorem ada (ok:Nat->Bool) (env:Nat->SV):∀l,qE (zO ok env l)=ve ok (qE env) l
 |[]=>rfl
 |s::ss=>by simp only[zO,ve,v5,ada ok env ss,SV.AV];rfl
theorem K8 (ok:Nat->Bool) (h:Nat->Option SB):∀l,cY (vo ok h l)=rl ok (cY h) l
 |[]=>rfl
 |s::ss=>by
  simp only[vo,rl]
  cases ok s with
  |false=>simp only[K8 ok h ss,Bool.false_eq_true,if_false]
  |true=>
   have:cY h s=(h s).map SB.er:=rfl
   simp only[if_true,this]
   cases h s with
   |none=>simp only[Option.map_none,K8 ok h ss]
   |some b=>simp only[IU,K8 ok h ss,Option.map_some,SB.AV]
theorem adb (ok:Nat->Bool):∀l,sF ok l=vf ok l
 |[]=>rfl
 |s::ss=>by
  simp only[sF,vf]
  cases ok s<;>simp[adb ok ss]
theorem Vw (ok:Nat->Bool) (env:Nat->SV):∀(l:List Nat) (s:Nat),s∉l->zO ok env l s=.one .bn
 |[],s,_=>rfl
 |a::l,s,h=>by
  simp only[List.mem_cons,not_or] at h
  simp only[zO,cz _ _ _ _ h.1,Vw ok env l s h.2]
theorem Vx (ok:Nat->Bool) (hp:Nat->Option SB):∀(l:List Nat) (s:Nat),s∉l->vo ok hp l s=none
 |[],s,_=>rfl
 |a::l,s,h=>by
  simp only[List.mem_cons,not_or] at h
  have ih:=Vx ok hp l s h.2
  simp only[vo]
  cases ok a with
  |false=>exact ih
  |true=>
   cases hp a with
   |none=>exact ih
   |some b=>simp only[cz _ _ _ _ h.1];exact ih
theorem Vy (ok:Nat->Bool):∀(l:List Nat) (s:Nat),s∉l->sF ok l s=false
 |[],s,_=>rfl
 |a::l,s,h=>by
  simp only[List.mem_cons,not_or] at h
  have ih:=Vy ok l s h.2
  simp only[sF]
  cases ok a with
  |false=>exact ih
  |true=>simp only[cz _ _ _ _ h.1];exact ih
def SC.w9 (n:Nat):SC->Bool
 |.ptr m _ _ _=>Nat.beq m n
 |.sl m _ _ _=>Nat.beq m n
 |.bx m _ _ _ _ _=>Nat.beq m n
 |.cV m _ _ _ _ _=>Nat.beq m n
 |_=>false
def SC.gS (n:Nat):SC->Bool
 |.fn _ cA=>cA.any (SC.w9 n)
 |.ptr m _ _ _=>Nat.beq m n
 |.sl m _ _ _=>Nat.beq m n
 |.bx m _ _ _ _ _=>Nat.beq m n
 |.cV m _ _ _ _ _=>Nat.beq m n
 |.v _ _=>false
 |.nil _=>false
 |.cB _ _ _=>false
 |.bn=>false
theorem Du (m n:Nat):(m==n)=Nat.beq m n:=by
 rw[Bool.eq_iff_iff,beq_iff_eq]
 exact⟨fun h=>by rw[h];exact Nat.beq_refl n,Nat.eq_of_beq_eq_true⟩
theorem SC.anS (n:Nat) (c:SC):c.er.w9 n=c.w9 n:=by
 cases c<;>simp[SC.er,ah.w9,SC.w9,Du]
theorem SC.KE (n:Nat) (c:SC):c.er.gS n=c.gS n:=by
 cases c with
 |fn f cA=>
  simp only[SC.er,SC.DW,ah.gS,SC.gS,List.any_map]
  congr 1
  funext c
  exact SC.anS n c
 |ptr m _ _ _=>exact Du m n
 |sl m _ _ _=>exact Du m n
 |bx m _ _ _ _ _=>exact Du m n
 |cV m _ _ _ _ _=>exact Du m n
 |_=>rfl
def SV.gS (n:Nat):SV->Bool
 |.one c=>c.gS n
 |.agg cs=>cs.any (SC.gS n)
 |.bq xs=>xs.any fun x=>x.2.any (SC.gS n)
theorem Sv (n:Nat) (cs:List SC):(cs.map SC.er).any (ah.gS n)=cs.any (SC.gS n):=by
 rw[List.any_map]
 congr 1
 funext c
 exact SC.KE n c
theorem SV.KE (n:Nat) (v:SV):v.er.gS n=v.gS n:=by
 cases v with
 |one c=>exact SC.KE n c
 |agg cs=>exact Sv n cs
 |bq xs=>
  simp only[SV.er,aj.gS,SV.gS,List.any_map]
  congr 1
  funext x
  exact Sv n x.2
def ab2 (n:Nat):Option SB->Bool
 |some (.box cs)=>cs.any (SC.gS n)
 |_=>false
def IP (n:Nat):List Nat->Bool
 |[]=>false
 |m::l=>match Nat.beq n m with
  |true=>true
  |false=>IP n l
theorem X7 (n:Nat):∀l:List Nat,IP n l=l.contains n
 |[]=>rfl
 |m::l=>by
  simp only[IP,List.contains_cons]
  have e:(n==m)=Nat.beq n m:=by cases h:Nat.beq n m with
   |true=>simpa using Nat.eq_of_beq_eq_true h
   |false=>simp;intro h';rw[h',Nat.beq_refl] at h;cases h
  rw[e,X7 n l]
  cases Nat.beq n m<;>rfl
def af.iU (σ:af) (ke kh:List Nat):Nat->Bool:=fun n=>(σ.h n).isSome&&IP n kh&&(Nat.ble aK n||ke.any (fun s=>(σ.env s).gS n)||kh.any fun k=>ab2 n (σ.h k))
theorem af.amp (σ:af) (ke kh:List Nat):σ.er.iU ke kh=σ.iU ke kh:=by
 funext n
 simp only[St.iU,af.iU]
 have h1:(σ.er.h n).isSome=(σ.h n).isSome:=Yd σ.h n
 have h2:(fun s=>(σ.er.env s).gS n)=fun s=>(σ.env s).gS n:=by funext s;exact SV.KE n _
 have h3:(fun k=>match σ.er.h k with|some (.box cs)=>cs.any (·.gS n)|_=>false)=fun k=>ab2 n (σ.h k):=by
  funext k
  have:σ.er.h k=(σ.h k).map SB.er:=rfl
  rw[this]
  cases σ.h k with
  |none=>rfl
  |some b=>cases b with
   |box cs=>exact Sv n cs
   |row gr m ts xs=>rfl
 rw[h1,h2,X7,Bool.and_comm (x:=(σ.h n).isSome)]
 exact congrArg (fun g:Nat->Bool=>(kh.contains n&&(σ.h n).isSome&&((Nat.ble aK n||ke.any fun s=>SV.gS n (σ.env s))||kh.any g))) h3
def af.iq (σ:af) (ke kh:List Nat):af:=
 {env:=zO (σ.iU ke kh) σ.env ke,h:=vo (σ.iU ke kh) σ.h kh,used:=fun n=>Nat.ble aK n||sF (σ.iU ke kh) kh n}
theorem af.SD (σ:af) (ke kh:List Nat):(σ.iq ke kh).er=σ.er.iq ke kh:=by
 simp only[af.iq,St.iq,af.amp]
 have e1:=ada (σ.iU ke kh) σ.env ke
 have e2:=K8 (σ.iU ke kh) σ.h kh
 have e3:=adb (σ.iU ke kh) kh
 show St.mk (qE (zO (σ.iU ke kh) σ.env ke)) (cY (vo (σ.iU ke kh) σ.h kh)) (fun n=>Nat.ble aK n||sF (σ.iU ke kh) kh n)=_
 rw[e1,e2,e3]
 rfl
def tJ (x c n:Nat):Nat:=match Nat.beq n x with|true=>c|false=>n
theorem FY (x c n:Nat):tJ x c n=nY x c n:=by
 unfold tJ nY
 cases h:Nat.beq n x with
 |true=>rw[if_pos (Nat.eq_of_beq_eq_true h)]
 |false=>rw[if_neg (fun e=>by rw[e,Nat.beq_refl] at h;cases h)]
def SC.oU (x c:Nat):SC->SC
 |.ptr n k sz off=>.ptr (tJ x c n) k sz off
 |.sl n sz lo len=>.sl (tJ x c n) sz lo len
 |.bx n k aA off sz len=>.bx (tJ x c n) k aA off sz len
 |.cV n k aA off sz i=>.cV (tJ x c n) k aA off sz i
 |y=>y
def SC.bh (x c:Nat):SC->SC
 |.fn f cA=>.fn f (cA.map (SC.oU x c))
 |.ptr n k sz off=>.ptr (tJ x c n) k sz off
 |.sl n sz lo len=>.sl (tJ x c n) sz lo len
 |.bx n k aA off sz len=>.bx (tJ x c n) k aA off sz len
 |.cV n k aA off sz i=>.cV (tJ x c n) k aA off sz i
 |.v t y=>.v t y
 |.nil ts=>.nil ts
 |.cB ts y off=>.cB ts y off
 |.bn=>.bn
theorem SC.anX (x c:Nat) (y:SC):(y.oU x c).er=y.er.oU x c:=by
 cases y<;>simp[SC.oU,SC.er,ah.oU,FY]
theorem SC.xc (x c:Nat) (y:SC):(y.bh x c).er=y.er.bh x c:=by
 cases y with
 |fn f cA=>
  simp only[SC.bh,SC.er,ah.bh,SC.DW,List.map_map]
  congr 1
  exact List.map_congr_left fun y _=>SC.anX x c y
 |ptr n k sz off=>simp only[SC.bh,SC.er,ah.bh,ah.oU,FY]
 |sl n sz lo len=>simp only[SC.bh,SC.er,ah.bh,ah.oU,FY]
 |bx n k aA off sz len=>simp only[SC.bh,SC.er,ah.bh,ah.oU,FY]
 |cV n k aA off sz i=>simp only[SC.bh,SC.er,ah.bh,ah.oU,FY]
 |_=>rfl
theorem Sz (x c:Nat) (cs:List SC):(cs.map (SC.bh x c)).map SC.er=(cs.map SC.er).map (ah.bh x c):=by
 simp only[List.map_map]
 exact List.map_congr_left fun y _=>SC.xc x c y
def SV.bh (x c:Nat):SV->SV
 |.one y=>.one (y.bh x c)
 |.agg ys=>.agg (ys.map (SC.bh x c))
 |.bq ys=>.bq (ys.map fun y=>(y.1,y.2.map (SC.bh x c)))
theorem SV.xc (x c:Nat) (v:SV):(v.bh x c).er=v.er.bh x c:=by
 cases v with
 |one y=>simp only[SV.bh,SV.er,aj.bh,SC.xc]
 |agg cs=>simp only[SV.bh,SV.er,aj.bh,Sz]
 |bq xs=>
  simp only[SV.bh,SV.er,aj.bh,List.map_map]
  congr 1
  exact List.map_congr_left fun y _=>by simp only[Function.comp];rw[Sz]
def SB.bh (x c:Nat):SB->SB
 |.box cs=>.box (cs.map (SC.bh x c))
 |.row gr m ts xs=>.row gr m ts xs
theorem SB.xc (x c:Nat) (b:SB):(b.bh x c).er=b.er.bh x c:=by
 cases b with
 |box cs=>simp only[SB.bh,SB.er,ao.bh,Sz]
 |row gr m ts xs=>rfl
def af.bh (σ:af) (x c:Nat):Option af:=
  match Nat.beq x c with
  |true=>some σ
  |false=>match Nat.ble aK x with
   |true=>some σ
   |false=>match σ.used c with
    |true=>none
    |false=>some
     {env:=fun s=>(σ.env s).bh x c
      h:=fun n=>match Nat.beq n c with
        |true=>(σ.h x).map (SB.bh x c)
        |false=>match Nat.beq n x with
         |true=>none
         |false=>(σ.h n).map (SB.bh x c)
      used:=fun n=>match Nat.beq n c with
        |true=>σ.used x
        |false=>match Nat.beq n x with
         |true=>false
         |false=>σ.used n}
theorem wX {m n:Nat} (h:Nat.beq m n=false):m≠n:=fun e=>by rw[e,Nat.beq_refl] at h;cases h
theorem af.xc {σ σ1:af} {x c:Nat} (h:σ.bh x c=some σ1):σ.er.bh x c=some σ1.er:=by
 unfold af.bh at h
 split at h
 ·rename_i e
  injection h with h
  subst h
  simp[St.bh,Nat.eq_of_beq_eq_true e]
 ·rename_i e
  split at h
  ·rename_i hx
   injection h with h
   subst h
   simp only[St.bh,if_neg (wX e),hx,if_true]
  rename_i hx
  split at h
  ·cases h
  ·rename_i hu
   injection h with h
   subst h
   have kz:σ.er.used c=false:=hu
   simp only[St.bh,if_neg (wX e),hx,kz,Bool.false_eq_true,if_false]
   congr 1
   have mm:∀o:Option SB,(o.map (SB.bh x c)).map SB.er=(o.map SB.er).map (·.bh x c):=by
    intro o;cases o with
    |none=>rfl
    |some b=>simp only[Option.map_some,SB.xc]
   have e1:(fun s=>(σ.er.env s).bh x c)=qE (fun s=>(σ.env s).bh x c):=by
    funext s;exact(SV.xc x c (σ.env s)).symm
   have e2:(fun n=>if n=c then(σ.er.h x).map (·.bh x c) else if n=x then none else(σ.er.h n).map (·.bh x c))=cY (fun n=>match Nat.beq n c with
     |true=>(σ.h x).map (SB.bh x c)
     |false=>match Nat.beq n x with
      |true=>none
      |false=>(σ.h n).map (SB.bh x c)):=by
    funext n
    simp only[cY]
    cases hc:Nat.beq n c with
    |true=>rw[if_pos (Nat.eq_of_beq_eq_true hc)];exact(mm (σ.h x)).symm
    |false=>
     rw[if_neg (wX hc)]
     cases hx:Nat.beq n x with
     |true=>rw[if_pos (Nat.eq_of_beq_eq_true hx)];rfl
     |false=>rw[if_neg (wX hx)];exact(mm (σ.h n)).symm
   have e3:(fun n=>if n=c then σ.er.used x else if n=x then false else σ.er.used n)=(fun n=>match Nat.beq n c with
     |true=>σ.used x
     |false=>match Nat.beq n x with
      |true=>false
      |false=>σ.used n):=by
    funext n
    cases hc:Nat.beq n c with
    |true=>rw[if_pos (Nat.eq_of_beq_eq_true hc)];rfl
    |false=>
     rw[if_neg (wX hc)]
     cases hx:Nat.beq n x with
     |true=>rw[if_pos (Nat.eq_of_beq_eq_true hx)]
     |false=>rw[if_neg (wX hx)];rfl
   rw[e1,e2,e3]
   rfl
abbrev Cn:=List (Bool×Nat×Nat×Nat×Mode×List Ty)
def Cn.er (cn:Cn):List (Bool×Nat×Nat×Nat×Mode):=cn.map fun x=>(x.1,x.2.1,x.2.2.1,x.2.2.2.1,x.2.2.2.2.1)
def af.jS (σ:af) (c:Nat):Mode->af
 |.aF=>match σ.h c with
  |some (.row gr .ab ts xs)=>σ.dB c (.row gr .aF ts xs)
  |_=>σ
 |_=>σ
theorem af.afD (σ:af) (c:Nat) (m:Mode):(σ.jS c m).er=σ.er.jS c m:=by
 cases m with
 |live=>rfl
 |ab=>rfl
 |aF=>
  simp only[af.jS,St.jS]
  have hh:σ.er.h c=(σ.h c).map SB.er:=rfl
  rw[hh]
  cases σ.h c with
  |none=>rfl
  |some b=>cases b with
   |box cs=>rfl
   |row gr m ts xs=>cases m with
    |ab=>simp only[Option.map_some,SB.er,af.pt]
    |live=>rfl
    |aF=>rfl
def xi (σ:af):Bool×Nat×Nat×Nat×Mode×List Ty->Option af
 |(true,n,j,c,m,us)=>match σ.h n with
  |some (.box cs)=>match cs[j]? with
   |some (.sl a _ _ _)=>(σ.bh a c).map fun σ1=>σ1.jS c m
   |some (.nil ts)=>match ts with
    |[]=>some σ
    |t::ts=>match σ.ins c (.row true m (t::ts) []) with
     |some σ1=>some (σ1.dB n (.box (cs.set j (.sl c (t::ts).length 0 0))))
     |none=>none
   |_=>some σ
  |_=>some σ
 |(false,n,j,c,m,us)=>match σ.env n with
  |.one (.sl a _ _ _)=>(σ.bh a c).map fun σ1=>σ1.jS c m
  |.one (.nil ts)=>match ts with
   |[]=>some σ
   |t::ts=>match σ.ins c (.row true m (t::ts) []) with
    |some σ1=>some (σ1.put (some n) (.one (.sl c (t::ts).length 0 0)))
    |none=>none
  |_=>some σ
theorem ac9 {σ σ1:af} {a c:Nat} {m:Mode} (h:(σ.bh a c).map (fun σ1=>σ1.jS c m)=some σ1):(σ.er.bh a c).map (fun σ1=>σ1.jS c m)=some σ1.er:=by
 rw[Option.map_eq_some_iff] at h
 obtain⟨σ2,e,rfl⟩:=h
 rw[af.xc e,Option.map_some,af.afD]
theorem aoy {σ σ1:af} {x:Bool×Nat×Nat×Nat×Mode×List Ty} (h:xi σ x=some σ1):σ.er.canon (x.1,x.2.1,x.2.2.1,x.2.2.2.1,x.2.2.2.2.1)=some σ1.er:=by
 obtain⟨b,n,j,c,m,us⟩:=x
 cases b with
 |true=>
  simp only[xi] at h
  simp only[St.canon]
  have hh:σ.er.h n=(σ.h n).map SB.er:=rfl
  rw[hh]
  split at h
  ·rename_i cs hn
   simp only[hn,Option.map_some,SB.er,List.getElem?_map]
   split at h
   ·rename_i a _ _ _ hj
    simp only[hj,Option.map_some,SC.er]
    exact ac9 h
   ·rename_i ts hj
    simp only[hj,Option.map_some,SC.er]
    split at h
    ·injection h with h;subst h;rfl
    ·rename_i t ts
     split at h
     ·rename_i σ2 e
      injection h with h
      subst h
      have i:=af.s6 e
      rw[show(SB.row true m (t::ts) []).er=ao.row true m (t::ts).length [] from rfl] at i
      simp only[List.length_cons,Nat.zero_lt_succ,if_true] at i⊢
      rw[i]
      simp only[af.pt,SB.er,List.map_set,SC.er,List.length_cons]
     ·cases h
   ·rename_i hs hz
    injection h with h
    subst h
    cases hj:cs[j]? with
    |none=>rfl
    |some y=>cases y<;>first|rfl|(exfalso;exact hs _ _ _ _ hj)|(exfalso;exact hz _ hj)
  ·rename_i hb
   injection h with h
   subst h
   cases hn:σ.h n with
   |none=>rfl
   |some b=>cases b with
    |box cs=>exact absurd hn (hb cs)
    |row gr m ts xs=>rfl
 |false=>
  simp only[xi] at h
  simp only[St.canon]
  have hh:σ.er.env n=(σ.env n).er:=rfl
  rw[hh]
  split at h
  ·rename_i a _ _ _ hn
   simp only[hn,SV.er,SC.er]
   exact ac9 h
  ·rename_i ts hn
   simp only[hn,SV.er,SC.er]
   split at h
   ·injection h with h;subst h;rfl
   ·rename_i t ts
    split at h
    ·rename_i σ2 e
     injection h with h
     subst h
     have i:=af.s6 e
     rw[show(SB.row true m (t::ts) []).er=ao.row true m (t::ts).length [] from rfl] at i
     simp only[List.length_cons,Nat.zero_lt_succ,if_true] at i⊢
     rw[i]
     simp only[af.dw,SV.er,SC.er,List.length_cons]
    ·cases h
  ·rename_i hs hz
   injection h with h
   subst h
   cases hn:σ.env n with
   |one y=>cases y<;>first|rfl|(exfalso;exact hs _ _ _ _ hn)|(exfalso;exact hz _ hn)
   |_=>rfl
def CF (σ:af):Cn->Option af
 |[]=>some σ
 |x::l=>match xi σ x with
  |some σ1=>CF σ1 l
  |none=>none
theorem acw:∀{cn:Cn} {σ σ1:af},CF σ cn=some σ1->σ.er.sT cn.er=some σ1.er
 |[],σ,σ1,h=>by simp only[CF] at h;injection h with h;subst h;rfl
 |x::l,σ,σ1,h=>by
  simp only[CF] at h
  split at h
  ·rename_i σ2 e
   have i:=aoy e
   have j:=acw h
   simp only[Cn.er] at j
   simp only[Cn.er,List.map_cons,St.sT,i,j]
  ·cases h
section
variable {ρ:Type}
def zo (n:Nat) (k:Nat->Option ρ):List Nat->Option ρ
 |[]=>k n
 |c::l=>match Nat.beq n c with
  |true=>k c
  |false=>zo n k l
theorem abf (n:Nat) (k:Nat->Option ρ):∀l,zo n k l=k n
 |[]=>rfl
 |c::l=>by
  simp only[zo]
  split
  ·rename_i e;rw[Nat.eq_of_beq_eq_true e]
  ·exact abf n k l
def Oz (kh:List Nat) (c:SC) (k:SC->Option ρ):Option ρ:=
 match c with
 |.v t x=>k (.v t x)
 |.nil ts=>k (.nil ts)
 |.ptr n kk sz off=>zo n (fun n=>k (.ptr n kk sz off)) kh
 |.cB ts x off=>k (.cB ts x off)
 |.sl n sz lo len=>zo n (fun n=>k (.sl n sz lo len)) kh
 |.bx n a b c d e=>zo n (fun n=>k (.bx n a b c d e)) kh
 |.cV n a b c d e=>zo n (fun n=>k (.cV n a b c d e)) kh
 |.fn f cA=>k (.fn f cA)
 |.bn=>k .bn
theorem YV (kh:List Nat) (c:SC) (k:SC->Option ρ):Oz kh c k=k c:=by
 cases c<;>first|rfl|exact abf _ _ _
def Ed (kh:List Nat):List SC->(List SC->Option ρ)->Option ρ
 |[],k=>k []
 |c::cs,k=>Oz kh c fun c=>Ed kh cs fun cs=>k (c::cs)
theorem OA (kh:List Nat):∀(cs:List SC) (k:List SC->Option ρ),Ed kh cs k=k cs
 |[],k=>rfl
 |c::cs,k=>by simp only[Ed,YV,OA kh cs]
def ul (kh:List Nat) (env:Nat->SV):List Nat->(List (Nat×SV)->Option ρ)->Option ρ
 |[],k=>k []
 |s::ss,k=>match env s with
  |.one .bn=>ul kh env ss k
  |.one c=>Oz kh c fun c=>ul kh env ss fun l=>k ((s,.one c)::l)
  |.agg cs=>Ed kh cs fun cs=>ul kh env ss fun l=>k ((s,.agg cs)::l)
  |.bq xs=>ul kh env ss fun l=>k ((s,.bq xs)::l)
def uo (kh:List Nat) (h:Nat->Option SB):List Nat->(List (Nat×Option SB)->Option ρ)->Option ρ
 |[],k=>k []
 |n::ns,k=>match h n with
  |none=>uo kh h ns k
  |some (.box cs)=>Ed kh cs fun cs=>uo kh h ns fun l=>k ((n,some (.box cs))::l)
  |some (.row gr m ts xs)=>uo kh h ns fun l=>k ((n,some (.row gr m ts xs))::l)
def yn (u:Nat->Bool):List Nat->(List Nat->Option ρ)->Option ρ
 |[],k=>k []
 |n::ns,k=>match u n with
  |true=>yn u ns fun l=>k (n::l)
  |false=>yn u ns k
def vu:List Nat->Nat->Bool
 |[],n=>Nat.ble aK n
 |m::l,n=>match Nat.beq n m with
  |true=>true
  |false=>vu l n
def af.Bj (ke kh:List Nat) (σ:af) (k:af->Option ρ):Option ρ:=
 ul kh σ.env ke fun le=>uo kh σ.h kh fun lh=>yn σ.used kh fun lu=>k ⟨mg le,jX lh,vu lu⟩
structure iA (ke kh:List Nat) (σ:af):Prop where
 e:∀s,s∉ke->σ.env s=.one .bn
 h:∀n,n∉kh->σ.h n=none
 u:∀n,n∉kh->σ.used n=Nat.ble aK n
 p:∀n,σ.used n=false->Nat.ble aK n=false
theorem YW (kh:List Nat) (env:Nat->SV):∀(ss:List Nat) (k:List (Nat×SV)->Option ρ),∃l:List (Nat×SV),ul kh env ss k=k l/\∀s,mg l s=if s∈ss then env s else .one .bn
 |[],k=>⟨[],rfl,fun s=>by simp[mg]⟩
 |a::ss,k=>by
  have ca:∀v:SV,env a=v->(∀k':List (Nat×SV)->Option ρ,∃l,ul kh env ss k'=k' l/\∀s,mg l s=if s∈ss then env s else .one .bn)->
    ∃l:List (Nat×SV),ul kh env ss (fun l=>k ((a,v)::l))=k l/\∀s,mg l s=if s∈a::ss then env s else .one .bn:=by
   intro v hv ih
   obtain⟨l,h1,h2⟩:=ih fun l=>k ((a,v)::l)
   refine⟨(a,v)::l,h1,fun s=>?_⟩
   simp only[mg,iY]
   split
   ·rename_i e
    subst e
    rw[if_pos (by simp)]
    exact hv.symm
   ·rename_i aC
    rw[h2 s]
    by_cases hs:s∈ss
    ·rw[if_pos hs,if_pos (by simp[hs])]
    ·rw[if_neg hs,if_neg (by simp[hs,aC])]
  have ih:=fun k':List (Nat×SV)->Option ρ=>YW kh env ss k'
  simp only[ul]
  split
  ·rename_i hv
   obtain⟨l,h1,h2⟩:=ih k
   refine⟨l,h1,fun s=>?_⟩
   rw[h2 s]
   by_cases hs:s∈ss
   ·rw[if_pos hs,if_pos (by simp[hs])]
   ·rw[if_neg hs]
    by_cases wD:s=a
    ·subst wD;rw[if_pos (by simp),hv]
    ·rw[if_neg (by simp[hs,wD])]
  ·rename_i c hc hv
   rw[YV]
   exact ca _ hv ih
  ·rename_i cs hv
   rw[OA]
   exact ca _ hv ih
  ·rename_i xs hv
   exact ca _ hv ih
theorem YX (kh:List Nat) (h:Nat->Option SB):∀(ns:List Nat) (k:List (Nat×Option SB)->Option ρ),∃l:List (Nat×Option SB),uo kh h ns k=k l/\∀n,jX l n=if n∈ns then h n else none
 |[],k=>⟨[],rfl,fun s=>by simp[jX]⟩
 |a::ns,k=>by
  have ca:∀v:Option SB,h a=v->(∀k':List (Nat×Option SB)->Option ρ,∃l,uo kh h ns k'=k' l/\∀s,jX l s=if s∈ns then h s else none)->
    ∃l:List (Nat×Option SB),uo kh h ns (fun l=>k ((a,v)::l))=k l/\∀s,jX l s=if s∈a::ns then h s else none:=by
   intro v hv ih
   obtain⟨l,h1,h2⟩:=ih fun l=>k ((a,v)::l)
   refine⟨(a,v)::l,h1,fun s=>?_⟩
   simp only[jX,iY]
   split
   ·rename_i e
    subst e
    rw[if_pos (by simp)]
    exact hv.symm
   ·rename_i aC
    rw[h2 s]
    by_cases hs:s∈ns
    ·rw[if_pos hs,if_pos (by simp[hs])]
    ·rw[if_neg hs,if_neg (by simp[hs,aC])]
  have ih:=fun k':List (Nat×Option SB)->Option ρ=>YX kh h ns k'
  simp only[uo]
  split
  ·rename_i hv
   obtain⟨l,h1,h2⟩:=ih k
   refine⟨l,h1,fun s=>?_⟩
   rw[h2 s]
   by_cases hs:s∈ns
   ·rw[if_pos hs,if_pos (by simp[hs])]
   ·rw[if_neg hs]
    by_cases wD:s=a
    ·subst wD;rw[if_pos (by simp),hv]
    ·rw[if_neg (by simp[hs,wD])]
  ·rename_i cs hv
   rw[OA]
   exact ca _ hv ih
  ·rename_i gr m ts xs hv
   exact ca _ hv ih
theorem OB (u:Nat->Bool) (hp:∀n,u n=false->Nat.ble aK n=false):∀(ns:List Nat) (k:List Nat->Option ρ),∃l:List Nat,yn u ns k=k l/\∀n,vu l n=if n∈ns then u n else Nat.ble aK n
 |[],k=>⟨[],rfl,fun s=>by simp[vu]⟩
 |a::ns,k=>by
  simp only[yn]
  split
  ·rename_i hv
   obtain⟨l,h1,h2⟩:=OB u hp ns fun l=>k (a::l)
   refine⟨a::l,h1,fun s=>?_⟩
   simp only[vu]
   split
   ·rename_i e
    have:=Nat.eq_of_beq_eq_true e
    subst this
    rw[if_pos (by simp)]
    exact hv.symm
   ·rename_i e
    have aC:=wX e
    rw[h2 s]
    by_cases hs:s∈ns
    ·rw[if_pos hs,if_pos (by simp[hs])]
    ·rw[if_neg hs,if_neg (by simp[hs,aC])]
  ·rename_i hv
   obtain⟨l,h1,h2⟩:=OB u hp ns k
   refine⟨l,h1,fun s=>?_⟩
   rw[h2 s]
   by_cases hs:s∈ns
   ·rw[if_pos hs,if_pos (by simp[hs])]
   ·rw[if_neg hs]
    by_cases wD:s=a
    ·subst wD;rw[if_pos (by simp),hv,hp _ hv]
    ·rw[if_neg (by simp[hs,wD])]
theorem I9 {ke kh:List Nat} {σ:af} (W:iA ke kh σ) (k:af->Option ρ):σ.Bj ke kh k=k σ:=by
 unfold af.Bj
 obtain⟨le,e1,e2⟩:=YW kh σ.env ke fun le=>uo kh σ.h kh fun lh=>yn σ.used kh fun lu=>k ⟨mg le,jX lh,vu lu⟩
 rw[e1]
 obtain⟨lh,h1,h2⟩:=YX kh σ.h kh fun lh=>yn σ.used kh fun lu=>k ⟨mg le,jX lh,vu lu⟩
 rw[h1]
 obtain⟨lu,u1,u2⟩:=OB σ.used W.p kh fun lu=>k ⟨mg le,jX lh,vu lu⟩
 rw[u1]
 have a1:mg le=σ.env:=by
  funext s
  rw[e2 s]
  split
  ·rfl
  ·rename_i hs;exact(W.e s hs).symm
 have a2:jX lh=σ.h:=by
  funext s
  rw[h2 s]
  split
  ·rfl
  ·rename_i hs;exact(W.h s hs).symm
 have a3:vu lu=σ.used:=by
  funext s
  rw[u2 s]
  split
  ·rfl
  ·rename_i hs;exact(W.u s hs).symm
 rw[a1,a2,a3]
theorem iA.iq (ke kh:List Nat) (σ:af):iA ke kh (σ.iq ke kh):=
 ⟨fun s hs=>Vw _ _ _ s hs,fun n hn=>Vx _ _ _ n hn,fun n hn=>by show(Nat.ble aK n||sF _ _ n)=_;rw[Vy _ _ n hn,Bool.or_false],
  fun n hn=>by have bk:(Nat.ble aK n||sF _ _ n)=false:=hn;simp only[Bool.or_eq_false_iff] at bk;exact bk.1⟩
theorem iA.bh {ke kh:List Nat} {σ σ1:af} {a c:Nat} (W:iA ke kh σ) (hc:c∈kh) (h:σ.bh a c=some σ1):iA ke kh σ1:=by
 unfold af.bh at h
 split at h
 ·injection h with h;subst h;exact W
 ·split at h
  ·injection h with h;subst h;exact W
  ·rename_i wC
   split at h
   ·cases h
   ·rename_i JF
    injection h with h
    subst h
    refine⟨fun s hs=>?_,fun n hn=>?_,fun n hn=>?_,fun n hn=>?_⟩
    ·show(σ.env s).bh a c=_
     rw[W.e s hs];rfl
    ·simp only
     split
     ·rename_i e;exact absurd (by rw[Nat.eq_of_beq_eq_true e];exact hc) hn
     ·split
      ·rfl
      ·rw[W.h n hn];rfl
    ·simp only
     split
     ·rename_i e;exact absurd (by rw[Nat.eq_of_beq_eq_true e];exact hc) hn
     ·split
      ·rename_i e;rw[Nat.eq_of_beq_eq_true e,wC]
      ·exact W.u n hn
    ·simp only at hn
     split at hn
     ·rename_i e;rw[Nat.eq_of_beq_eq_true e];exact W.p c JF
     ·split at hn
      ·rename_i e;rw[Nat.eq_of_beq_eq_true e,wC]
      ·exact W.p n hn
theorem iA.ins {ke kh:List Nat} {σ σ1:af} {c:Nat} {b:SB} (W:iA ke kh σ) (hc:c∈kh) (h:σ.ins c b=some σ1):iA ke kh σ1:=by
 unfold af.ins at h
 split at h
 ·cases h
 ·rename_i JF
  injection h with h
  subst h
  refine⟨W.e,fun n hn=>?_,fun n hn=>?_,fun n hn=>?_⟩
  ·show av σ.h c _ n=_
   rw[cz _ _ _ _ (fun e=>hn (by rw[e];exact hc))];exact W.h n hn
  ·show av σ.used c _ n=_
   rw[cz _ _ _ _ (fun e=>hn (by rw[e];exact hc))];exact W.u n hn
  ·have bk:av σ.used c true n=false:=hn
   by_cases e:n=c
   ·subst e;rw[bG] at bk;cases bk
   ·rw[cz _ _ _ _ e] at bk;exact W.p n bk
theorem iA.jS {ke kh:List Nat} {σ:af} (W:iA ke kh σ) (c:Nat) (m:Mode):iA ke kh (σ.jS c m):=by
 cases m with
 |live=>exact W
 |ab=>exact W
 |aF=>
  simp only[af.jS]
  split
  ·rename_i gr ts xs hn
   exact⟨W.e,fun n hk=>by
    show av σ.h c _ n=none
    have uI:n≠c:=fun e=>by subst e;rw[W.h n hk] at hn;cases hn
    rw[cz _ _ _ _ uI];exact W.h n hk,W.u,W.p⟩
  ·exact W
theorem iA.Fv {ke kh:List Nat} {σ σ1:af} {a c:Nat} {m:Mode} (W:iA ke kh σ) (hc:c∈kh) (h:(σ.bh a c).map (fun σ1=>σ1.jS c m)=some σ1):iA ke kh σ1:=by
 rw[Option.map_eq_some_iff] at h
 obtain⟨σ2,e,rfl⟩:=h
 exact(W.bh hc e).jS c m
theorem iA.canon {ke kh:List Nat} {σ σ1:af} {x:Bool×Nat×Nat×Nat×Mode×List Ty} (W:iA ke kh σ) (hc:x.2.2.2.1∈kh) (h:xi σ x=some σ1):iA ke kh σ1:=by
 obtain⟨b,n,j,c,m,us⟩:=x
 simp only at hc
 have f9:some σ=some σ1->iA ke kh σ1:=fun h=>by injection h with h;subst h;exact W
 cases b with
 |true=>
  simp only[xi] at h
  split at h
  ·rename_i cs hn
   split at h
   ·exact W.Fv hc h
   ·split at h
    ·exact f9 h
    ·split at h
     ·rename_i σ2 e
      injection h with h
      subst h
      have W2:=W.ins hc e
      have Px:n∈kh:=by
       rcases Decidable.em (n∈kh) with h|h
       ·exact h
       ·rw[W.h n h] at hn;cases hn
      exact⟨W2.e,fun q hq=>by show av σ2.h n _ q=_;rw[cz _ _ _ _ (fun e=>hq (by rw[e];exact Px))];exact W2.h q hq,W2.u,W2.p⟩
     ·cases h
   ·exact f9 h
  ·exact f9 h
 |false=>
  simp only[xi] at h
  split at h
  ·exact W.Fv hc h
  ·rename_i ts hn
   split at h
   ·exact f9 h
   ·split at h
    ·rename_i σ2 e
     injection h with h
     subst h
     have W2:=W.ins hc e
     have Px:n∈ke:=by
      rcases Decidable.em (n∈ke) with h|h
      ·exact h
      ·rw[W.e n h] at hn;cases hn
     exact⟨fun q hq=>by show av σ2.env n _ q=_;rw[cz _ _ _ _ (fun e=>hq (by rw[e];exact Px))];exact W2.e q hq,W2.h,W2.u,W2.p⟩
    ·cases h
  ·exact f9 h
def KR (ke kh:List Nat):Cn->af->(af->Option ρ)->Option ρ
 |[],σ,k=>k σ
 |x::l,σ,k=>match xi σ x with
  |some σ1=>match List.elem x.2.2.2.1 kh with
   |true=>σ1.Bj ke kh fun σ2=>KR ke kh l σ2 k
   |false=>none
  |none=>none
theorem acv {ke kh:List Nat}:∀{cn:Cn} {σ:af} {k:af->Option ρ} {r:ρ},iA ke kh σ->KR ke kh cn σ k=some r->∃σ1,CF σ cn=some σ1/\k σ1=some r
 |[],σ,k,r,W,h=>⟨σ,rfl,h⟩
 |x::l,σ,k,r,W,h=>by
  simp only[KR] at h
  split at h
  ·rename_i σ1 e
   split at h
   ·rename_i hm
    have W1:=W.canon (by simpa using hm) e
    rw[I9 W1] at h
    obtain⟨σ2,h1,h2⟩:=acv W1 h
    exact⟨σ2,by simp only[CF,e,h1],h2⟩
   ·cases h
  ·cases h
def CH (sh:jz) (kh:List Nat) (cn:Cn) (σ:af) (k:sh.L.D->Option ρ):Option ρ:=
 (σ.iq sh.ke kh).Bj sh.ke kh fun σ1=>(σ1.iq sh.ke kh).Bj sh.ke kh fun σ2=>KR sh.ke kh cn σ2 fun gW=>(gW.iq sh.ke kh).Bj sh.ke kh fun σ4=>sh.flat kh σ4 k
theorem KW {sh:jz} {kh:List Nat} {cn:Cn} {σ:af} {k:sh.L.D->Option ρ} {r:ρ} (h:CH sh kh cn σ k=some r):
  ∃x,σ.er.head sh.ke kh cn.er=some (sh.un x).er/\k x=some r:=by
 unfold CH at h
 rw[I9 (iA.iq _ _ _),I9 (iA.iq _ _ _)] at h
 obtain⟨σ1,e,h⟩:=acv (iA.iq _ _ _) h
 rw[I9 (iA.iq _ _ _)] at h
 obtain⟨x,h1,h2⟩:=jz.pw h (fun s hs=>Vw _ _ _ s hs) (fun n hn=>⟨Vx _ _ _ n hn,by show(Nat.ble aK n||sF _ _ n)=_;rw[Vy _ _ n hn,Bool.or_false]⟩)
 have i:=acw e
 rw[af.SD,af.SD] at i
 exact⟨x,by simp only[St.head,i,<-h1,af.SD],h2⟩
end
inductive bA where
 |skip
 |ae (rR:Bool) (ops:List fm)
 |qb (ps:List (Nat×Nat)) (ops:List fm)
 |seq (a b:bA)
 |cond (c:cE) (a b:bA)
 |block (id:Nat) (c:bA)
 |join (sh:jz) (kh:List Nat) (cn:Cn) (c:bA)
 |loop (id:Nat) (sh:jz) (kh:List Nat) (cn:Cn) (c:bA)
 |exit (id:Nat)
 |ret
def bA.er:bA->lT
 |.skip=>.skip
 |.ae d ops=>.ae d (ops.map fm.er)
 |.qb ps ops=>.qb ps (ops.map fm.er)
 |.seq a b=>.seq a.er b.er
 |.cond c a b=>.cond c.er a.er b.er
 |.block id c=>.block id c.er
 |.join sh kh cn c=>.join sh.ke kh cn.er c.er
 |.loop id sh kh cn c=>.loop id sh.ke kh cn.er c.er
 |.exit id=>.exit id
 |.ret=>.ret
def af.QB (σ:af) (c:cE) (b:Bool):af:=
 match c with
 |.t n=>σ.lit n b
 |.k _=>σ
def wP {X ρ:Type} (o:Option ρ):Option (X⊕ρ):=o.aa fun r=>some (.inr r)
theorem BU {X ρ:Type} {o:Option ρ} {s:X⊕ρ} (h:wP o=some s):∃r,o=some r/\s=.inr r:=by
 unfold wP at h
 rw[eT] at h
 obtain⟨r,h1,h2⟩:=h
 injection h2 with h2
 exact⟨r,h1,h2.symm⟩
def lK (N:Nat) (T:List aw):bA->{ρ:Type}->af->(af->Option ρ)->(Nat->af->Option ρ)->(af->Option ρ)->Option ρ
 |.skip,_,σ,k,_,_=>k σ
 |.ae _ ops,_,σ,k,_,_=>ru T ops σ k
 |.qb ps ops,_,σ,k,_,_=>rv T ps ops [] σ k
 |.seq a b,_,σ,k,ex,kr=>lK N T a σ (fun σ1=>lK N T b σ1 k ex kr) ex kr
 |.cond c a b,_,σ,k,ex,kr=>match σ.ev c with
  |.one (.v .bool t)=>aG t (lK N T a (σ.QB c true) k ex kr) (lK N T b (σ.QB c false) k ex kr)
  |_=>none
 |.block id c,_,σ,k,ex,kr=>lK N T c σ k (fun i σ1=>match Nat.beq i id with|true=>k σ1|false=>ex i σ1) kr
 |.join sh kh cn c,ρ,σ,k,ex,kr=>
  cg (lK N T c (ρ:=sh.L.D⊕ρ) σ (fun σ1=>CH sh kh cn σ1 fun x=>some (.inl x)) (fun i σ1=>wP (ex i σ1)) (fun σ1=>wP (kr σ1))) fun x=>k (sh.un x)
 |.loop id sh kh cn c,ρ,σ,k,ex,kr=>
  CH sh kh cn σ fun x0=>bN N (fun x=>lK N T c (ρ:=sh.L.D⊕ρ) (sh.un x) (fun σ1=>CH sh kh cn σ1 fun x'=>some (.inl x')) (fun i σ1=>wP (ex i σ1)) (fun σ1=>wP (kr σ1))) x0
 |.exit id,_,σ,_,ex,_=>ex id σ
 |.ret,_,σ,_,_,kr=>kr σ
def WA {ρ:Type} (k:af->Option ρ) (ex:Nat->af->Option ρ) (kr:af->Option ρ) (r:ρ):sO->Prop
 |.fG τ=>∃eF:af,τ=eF.er/\k eF=some r
 |.ext i τ=>∃eF:af,τ=eF.er/\ex i eF=some r
 |.ret τ=>∃eF:af,τ=eF.er/\kr eF=some r
theorem aaH {σ:af} {c:cE} {b:Bool} (h:σ.ev c=.one (.v .bool b)):(σ.QB c b).er=σ.er:=by
 cases c with
 |t n=>exact af.DU h
 |k v=>rfl
theorem sE {T:List aw}:∀(m:bA) {ρ:Type} {σ:af} {k:af->Option ρ} {ex:Nat->af->Option ρ} {kr:af->Option ρ} {r:ρ},lK aE T m σ k ex kr=some r->
    ∃o:sO,d8 (cQ T) m.er σ.er=some o/\WA k ex kr r o
  |.skip,ρ,σ,k,ex,kr,r,h=>⟨.fG σ.er,rfl,σ,rfl,h⟩
  |.ae d ops,ρ,σ,k,ex,kr,r,h=>by
   obtain⟨σ1,h1,h2⟩:=U5 (h:ru T ops σ k=some r)
   exact⟨.fG σ1.er,by simp only[bA.er,d8,h1],σ1,rfl,h2⟩
  |.qb ps ops,ρ,σ,k,ex,kr,r,h=>by
   obtain⟨σ1,fs,h1,h2,h3⟩:=U4 (h:rv T ps ops [] σ k=some r)
   exact⟨.fG σ1.er,by simp only[bA.er,d8,h1,h2,cond_true],σ1,rfl,h3⟩
  |.seq a b,ρ,σ,k,ex,kr,r,h=>by
   obtain⟨o,h1,h2⟩:=sE a (h:lK aE T a σ (fun σ1=>lK aE T b σ1 k ex kr) ex kr=some r)
   cases o with
   |fG τ=>
    obtain⟨eF,rfl,h2⟩:=h2
    obtain⟨o2,h3,h4⟩:=sE b h2
    exact⟨o2,by simp only[bA.er,d8,h1,h3],h4⟩
   |ext i τ=>exact⟨.ext i τ,by simp only[bA.er,d8,h1],h2⟩
   |ret τ=>exact⟨.ret τ,by simp only[bA.er,d8,h1],h2⟩
  |.cond c a b,ρ,σ,k,ex,kr,r,h=>by
   simp only[lK] at h
   split at h
   · rename_i t hc
     have cC:σ.er.ev c.er=.one (.c (.bool t)):=by rw[af.dv,hc];rfl
     cases ht:(t:Bool) with
     |true=>
      rw[ht] at h
      simp only[Iz] at h
      obtain⟨o,h1,h2⟩:=sE a h
      rw[aaH (by rw[hc,ht])] at h1
      exact⟨o,by simp only[bA.er,d8,cC,ht,if_true,h1],h2⟩
     |false=>
      rw[ht] at h
      simp only[DF] at h
      obtain⟨o,h1,h2⟩:=sE b h
      rw[aaH (by rw[hc,ht])] at h1
      exact⟨o,by simp only[bA.er,d8,cC,ht,Bool.false_eq_true,if_false,h1],h2⟩
   · cases h
  |.block id c,ρ,σ,k,ex,kr,r,h=>by
   obtain⟨o,h1,h2⟩:=sE c (h:lK aE T c σ k (fun i σ1=>match Nat.beq i id with|true=>k σ1|false=>ex i σ1) kr=some r)
   cases o with
   |fG τ=>exact⟨.fG τ,by simp only[bA.er,d8,h1],h2⟩
   |ret τ=>exact⟨.ret τ,by simp only[bA.er,d8,h1],h2⟩
   |ext i τ=>
    obtain⟨eF,rfl,h2⟩:=h2
    simp only at h2
    split at h2
    · rename_i e
      exact⟨.fG eF.er,by simp only[bA.er,d8,h1,if_pos (Nat.eq_of_beq_eq_true e)],eF,rfl,h2⟩
    · rename_i e
      exact⟨.ext i eF.er,by simp only[bA.er,d8,h1,if_neg (wX e)],eF,rfl,h2⟩
  |.join sh kh cn c,ρ,σ,k,ex,kr,r,h=>by
   simp only[lK,cg,Option.bind_eq_some_iff] at h
   obtain⟨s,hs,h⟩:=h
   obtain⟨o,h1,h2⟩:=sE c hs
   cases o with
   |fG τ=>
    obtain⟨eF,rfl,h2⟩:=h2
    obtain⟨x,h3,h4⟩:=KW h2
    injection h4 with h4
    subst h4
    exact⟨.fG (sh.un x).er,by simp only[bA.er,d8,h1,h3],sh.un x,rfl,h⟩
   |ext i τ=>
    obtain⟨eF,rfl,h2⟩:=h2
    obtain⟨y,h3,rfl⟩:=BU h2
    injection h with h
    subst h
    exact⟨.ext i eF.er,by simp only[bA.er,d8,h1],eF,rfl,h3⟩
   |ret τ=>
    obtain⟨eF,rfl,h2⟩:=h2
    obtain⟨y,h3,rfl⟩:=BU h2
    injection h with h
    subst h
    exact⟨.ret eF.er,by simp only[bA.er,d8,h1],eF,rfl,h3⟩
  |.loop id sh kh cn c,ρ,σ,k,ex,kr,r,h=>by
   simp only[lK] at h
   obtain⟨x0,h0,h⟩:=KW h
   simp only[bA.er,d8]
   have ca:∀(n:Nat) (x0:sh.L.D) (LB:St),LB.head sh.ke kh cn.er=some (sh.un x0).er->
       bN n (fun x=>lK aE T c (ρ:=sh.L.D⊕ρ) (sh.un x) (fun σ1=>CH sh kh cn σ1 fun x'=>some (.inl x')) (fun i σ1=>wP (ex i σ1)) (fun σ1=>wP (kr σ1))) x0=some r->
       ∃o:sO,B8 n (fun σ=>match σ.head sh.ke kh cn.er with|some σ1=>d8 (cQ T) c.er σ1|none=>none) LB=some o/\WA k ex kr r o:=by
    intro n
    induction n with
    |zero=>intro x0 LB h0 h;simp[bN] at h
    |succ n ih=>
     intro x0 LB h0 h
     simp only[bN] at h
     simp only[B8,h0]
     split at h
     · rename_i x' hb
       obtain⟨o,h1,h2⟩:=sE c hb
       cases o with
       |fG τ=>
        obtain⟨eF,rfl,h2⟩:=h2
        obtain⟨x2,h3,h4⟩:=KW h2
        injection h4 with h4
        injection h4 with h4
        subst h4
        simp only[h1]
        exact ih x2 _ h3 h
       |ext i τ=>
        obtain⟨eF,rfl,h2⟩:=h2
        obtain⟨y,_,e⟩:=BU h2
        cases e
       |ret τ=>
        obtain⟨eF,rfl,h2⟩:=h2
        obtain⟨y,_,e⟩:=BU h2
        cases e
     · rename_i y hb
       injection h with h
       subst h
       obtain⟨o,h1,h2⟩:=sE c hb
       cases o with
       |fG τ=>
        obtain⟨eF,rfl,h2⟩:=h2
        obtain⟨x2,h3,h4⟩:=KW h2
        injection h4 with h4
        cases h4
       |ext i τ=>
        obtain⟨eF,rfl,h2⟩:=h2
        obtain⟨y',h3,e⟩:=BU h2
        injection e with e
        subst e
        exact⟨.ext i eF.er,by simp only[h1],eF,rfl,h3⟩
       |ret τ=>
        obtain⟨eF,rfl,h2⟩:=h2
        obtain⟨y',h3,e⟩:=BU h2
        injection e with e
        subst e
        exact⟨.ret eF.er,by simp only[h1],eF,rfl,h3⟩
     · cases h
   exact ca aE x0 σ.er h0 h
  |.exit id,ρ,σ,k,ex,kr,r,h=>⟨.ext id σ.er,rfl,σ,rfl,h⟩
  |.ret,ρ,σ,k,ex,kr,r,h=>⟨.ret σ.er,rfl,σ,rfl,h⟩
end Go.Am
