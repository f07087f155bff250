/- S6, AmY, AmZ, S7, MB, B0, B1, B2, MT, Mx, M1, M4, M5, M11, M22, M6, M7, M8, M9, M23, M24, M25, M31, Fm, M14, M15, M16, M17, M19, M33, M32, M34, M62, M64, M36, M18, M38, M48, M49: parts of the proof. No condition. -/
import Derived.Test.YtaaeocdagekdcaaS5
import Derived.Laws.BitsLemmas
set_option linter.unusedVariables false
set_option linter.unusedSimpArgs false
set_option synthInstance.maxSize 1000
set_option synthInstance.maxHeartbeats 400000
open List renaming getElem?_eq_getElem->co,map_congr_left->By,getElem?_eq_some_iff->BY,getElem?_eq_none->GB,map_cons->If,ext_getElem?->IS,mem_of_getElem?->IT,length_take->zaa,getElem?_map->zac,length_map->zah,length_cons->zaj,map_map->zal,filterMap_cons->zam,getD_eq_getElem?_getD->zan,range->zao,all_eq_true->zap,length_append->zas,getElem?_take->zau,mem_cons_of_mem->zaw,getElem?_append_left->zaA,mem_cons_self->zaE,length_nil->zaF,mem_range->zaJ,take_length->zaO,mem_iff_getElem->zaP,mem_of_mem_take->zaQ,mem_of_mem_drop->zaR,all_cons->zaS,range'->zaU,getElem?_append_right->zaX,any_map->zaY,map->za0,getElem?_drop->za3,getElem?_eq_none_iff->za4,drop_length->zbc,take_of_length_le->zbd,getElem?_set_self->zbe,mem_map->zbh,map_nil->zbi,getElem?_set_ne->zbp,getElem_of_mem->zbq,length->zbr,getElem?_range->zbt,mem_cons->zbv,any_cons->zbw,mem_singleton->zbx,getElem?_ofFn->zby,any_eq_false->zbC,take_add_one->zbD,length_range->zbE,nil_append->zbN,range_succ->zbT,replicate->zbU,drop_left->zbV,getD->zb2
open Sum renaming inl->wt,inr->AI
open Bool renaming and_eq_true->AN,true_and->zaf,false_eq_true->zaD,not_eq_true'->zbB,eq_iff_iff->zbL,false_or->zbX,or_false->zbY
open Int renaming toNat_natCast->AT,emod_lt_of_pos->Pd,mul_emod->zad,emod_nonneg->zai,mul_le_mul_of_nonneg_left->zak,mul_le_mul->zay,le_refl->zaB,emod_emod->zaG,pow_succ->zaL,emod_add_mul_ediv->zaM,mul_assoc->zaT,tmod_eq_emod_of_nonneg->zaW,mul_nonneg->za5,emod_eq_of_lt->za8,one_mul->zbs,mul_one->zbO,min_eq_left->zbP,add_zero->zb4,add_emod->zb7,sub_emod->zb8,mul_comm->zb9,mul_neg->zcd
open Option renaming map_some->IN,map_eq_some_iff->zae,bind->zav,bind_eq_some_iff->zba
open Nat renaming le_refl->OF,beq->Pe,mul_comm->zab,ble->zag,mod_eq_of_lt->zaq,ble_eq_true_of_le->zar,zero_add->zat,mul_le_mul_right->zax,dvd_of_mod_eq_zero->zaz,one_mul->zaC,mod_eq_zero_of_dvd->zaH,add_mul->zaI,eq_of_beq_eq_true->zaK,div_add_mod->zaV,sub_self->zaZ,lt_or_ge->za1,eq_zero_or_pos->za2,add_mul_mod_self_left->za6,le_mul_of_pos_right->zbb,div_div_eq_div_mul->zbf,le_of_ble_eq_true->zbg,add_zero->zbj,div_le_self->zbm,pow_succ->zbn,pow_le_pow_right->zbo,mul_le_mul_left->zbu,dvd_trans->zbz,add_sub_cancel->zbA,mod_lt->zbF,sub_zero->zbH,zero_lt_succ->zbI,div_eq_of_lt->zbJ,lt_succ_self->zbK,not_lt_zero->zbQ,mul_pos->zbR,add_mod->zbS,mul_le_mul->zbW,le_of_dvd->zbZ,and_assoc->zb0,beq_refl->zb1,succ_div->zb3,add_comm->zb5,le_trans->zb6,zero_le->zca,div_one->zcb,mul_one->zcc
open BitVec renaming ofInt->zaN
open Classical renaming byContradiction->za7,choose_spec->zbk
open Function renaming comp->za9
open Option.some renaming inj->zbl,injEq->zce
open Decidable renaming em->zbG
open Array renaming replicate->zbM
namespace Go.Am
def SC.iJ (ok:Nat->Bool):SC->SC
 |.ptr n k sz off=>match ok n with|true=>.ptr n k sz off|false=>.cj
 |.sl n sz lo len=>match ok n with|true=>.sl n sz lo len|false=>.cj
 |.cF n k aZ off sz len=>match ok n with|true=>.cF n k aZ off sz len|false=>.cj
 |.eE n k aZ off sz i=>match ok n with|true=>.eE n k aZ off sz i|false=>.cj
 |.dE ts x off j n sz len=>match ok n with|true=>.dE ts x off j n sz len|false=>.cj
 |x=>x
def SC.eR (ok:Nat->Bool):SC->SC
 |.fn f fv=>.fn f (fv.map (SC.iJ ok))
 |.v t x=>.v t x
 |.nil ts=>.nil ts
 |.ptr n k sz off=>SC.iJ ok (.ptr n k sz off)
 |.ez ts x off=>.ez ts x off
 |.sl n sz lo len=>SC.iJ ok (.sl n sz lo len)
 |.cF n k aZ off sz len=>SC.iJ ok (.cF n k aZ off sz len)
 |.eE n k aZ off sz i=>SC.iJ ok (.eE n k aZ off sz i)
 |.dE ts x off j n sz len=>SC.iJ ok (.dE ts x off j n sz len)
 |.cj=>.cj
theorem SC.HD (ok:Nat->Bool) (c:SC):(c.iJ ok).er=c.er.iJ ok:=by cases c with|ptr n k sz off=>grind [SC.iJ,SC.er,ao.iJ]|sl n sz lo len=>grind [SC.iJ,SC.er,ao.iJ]|cF n k a off sz len=>grind [SC.iJ,SC.er,ao.iJ]|eE n k a off sz i=>grind [SC.iJ,SC.er,ao.iJ]|dE ts x off j n sz len=>grind [SC.iJ,SC.er,ao.iJ]|_=>rfl
theorem SC.HE (ok:Nat->Bool) (c:SC):(c.eR ok).er=c.er.eR ok:=by cases c with|fn f fv=>simp only[SC.eR,SC.er,ao.eR,SC.Pv,zal];congr 1;exact By fun c _=>SC.HD ok c|ptr n k sz off=>exact SC.HD ok (.ptr n k sz off)|sl n sz lo len=>exact SC.HD ok (.sl n sz lo len)|cF n k a off sz len=>exact SC.HD ok (.cF n k a off sz len)|eE n k a off sz i=>exact SC.HD ok (.eE n k a off sz i)|dE ts x off j n sz len=>exact SC.HD ok (.dE ts x off j n sz len)|_=>rfl
def SV.eR (ok:Nat->Bool):SV->SV
 |.one c=>.one (c.eR ok)
 |.agg cs=>.agg (cs.map (SC.eR ok))
 |.cT xs=>.cT (xs.map fun x=>(x.1,x.2.map (SC.eR ok)))
 |.arr ts x=>.arr ts x
 |.pN ts x xs=>.pN ts x (xs.map fun x=>(x.1,x.2.map (SC.eR ok)))
theorem Vs (ok:Nat->Bool) (l:List C):(l.map ao.c).map (ao.eR ok)=l.map .c:=by rw[zal];exact By fun _ _=>rfl
theorem Pc (ok:Nat->Bool) (cs:List SC):(cs.map (SC.eR ok)).map SC.er=(cs.map SC.er).map (ao.eR ok):=by simp only[zal];exact By fun c _=>SC.HE ok c
theorem SV.HE (ok:Nat->Bool) (v:SV):(v.eR ok).er=v.er.eR ok:=by cases v with|one c=>simp only[SV.eR,SV.er,aw.eR,SC.HE]|agg cs=>simp only[SV.eR,SV.er,aw.eR,Pc]|cT xs=>simp only[SV.eR,SV.er,aw.eR,zal];congr 1;exact By fun x _=>by simp only[za9];rw[Pc]|arr ts x=>simp only[SV.eR,SV.er,aw.eR,Vs]|pN ts x xs=>simp only[SV.eR,SV.er,aw.eR,If,Vs,zal];congr 2;exact By fun x _=>by simp only[za9];rw[Pc]
def SB.eR (ok:Nat->Bool):SB->SB
 |.box cs=>.box (cs.map (SC.eR ok))
 |.row gr m ts xs=>.row gr m ts xs
 |.kt ts x=>.kt ts x
theorem SB.HE (ok:Nat->Bool) (b:SB):(b.eR ok).er=b.er.eR ok:=by cases b with|box cs=>simp only[SB.eR,SB.er,aV.eR,Pc]|row gr m ts xs=>rfl|kt ts x=>simp only[SB.eR,SB.er,aV.eR,Vs]
def GD (ok:Nat->Bool) (env:Nat->SV):List Nat->(Nat->SV)
 |[]=>fun _=>.one .cj
 |s::ss=>aN (GD ok env ss) s ((env s).eR ok)
def Cr (ok:Nat->Bool) (h:Nat->Option SB):List Nat->(Nat->Option SB)
 |[]=>fun _=>none
 |s::ss=>match ok s with
  |true=>match h s with
   |some b=>aN (Cr ok h ss) s (some (b.eR ok))
   |none=>Cr ok h ss
  |false=>Cr ok h ss
def y7 (ok:Nat->Bool):List Nat->(Nat->Bool)
 |[]=>fun _=>false
 |s::ss=>match ok s with
  |true=>aN (y7 ok ss) s true
  |false=>y7 ok ss
theorem aiP (ok:Nat->Bool) (env:Nat->SV):∀l,wW (GD ok env l)=Cg ok (wW env) l
 |[]=>rfl
 |s::ss=>by simp only[GD,Cg,Bo,aiP ok env ss,SV.HE];rfl
theorem Ss (ok:Nat->Bool) (h:Nat->Option SB):∀l,eM (Cr ok h l)=xB ok (eM h) l
 |[]=>rfl
 |s::ss=>by simp only[Cr,xB];cases ok s with|false=>simp only[Ss ok h ss,zaD,if_false]|true=>have:eM h s=(h s).map SB.er:=rfl;simp only[if_true,this];cases h s with|none=>simp only[Option.map_none,Ss ok h ss]|some b=>simp only[Ps,Ss ok h ss,IN,SB.HE]
theorem aiQ (ok:Nat->Bool):∀l,y7 ok l=Ch ok l
 |[]=>rfl
 |s::ss=>by simp only[y7,Ch];cases ok s<;>simp[aiQ ok ss]
theorem aab (ok:Nat->Bool) (env:Nat->SV):∀(l:List Nat) (s:Nat),s∉l->GD ok env l s=.one .cj
 |[],s,_=>rfl
 |a::l,s,h=>by simp only[zbv,not_or] at h;simp only[GD,dP _ _ _ _ h.1,aab ok env l s h.2]
theorem aac (ok:Nat->Bool) (d:Nat->Option SB):∀(l:List Nat) (s:Nat),s∉l->Cr ok d l s=none
 |[],s,_=>rfl
 |a::l,s,h=>by simp only[zbv,not_or] at h;have c:=aac ok d l s h.2;simp only[Cr];cases ok a with|false=>exact c|true=>cases d a with|none=>exact c|some b=>simp only[dP _ _ _ _ h.1];exact c
theorem aad (ok:Nat->Bool):∀(l:List Nat) (s:Nat),s∉l->y7 ok l s=false
 |[],s,_=>rfl
 |a::l,s,h=>by simp only[zbv,not_or] at h;have b:=aad ok l s h.2;simp only[y7];cases ok a with|false=>exact b|true=>simp only[dP _ _ _ _ h.1];exact b
def SC.DZ (n:Nat):SC->Bool
 |.ptr m _ _ _=>Pe m n
 |.sl m _ _ _=>Pe m n
 |.cF m _ _ _ _ _=>Pe m n
 |.eE m _ _ _ _ _=>Pe m n
 |.dE _ _ _ _ m _ _=>Pe m n
 |_=>false
def SC.km (n:Nat):SC->Bool
 |.fn _ fv=>fv.any (SC.DZ n)
 |.ptr m _ _ _=>Pe m n
 |.sl m _ _ _=>Pe m n
 |.cF m _ _ _ _ _=>Pe m n
 |.eE m _ _ _ _ _=>Pe m n
 |.dE _ _ _ _ m _ _=>Pe m n
 |.v _ _=>false
 |.nil _=>false
 |.ez _ _ _=>false
 |.cj=>false
theorem Hq (m n:Nat):(m==n)=Pe m n:=by rw[zbL,beq_iff_eq];simp_all
theorem SC.atL (n:Nat) (c:SC):c.er.DZ n=c.DZ n:=by cases c<;>simp[SC.er,ao.DZ,SC.DZ,Hq]
theorem SC.Rr (n:Nat) (c:SC):c.er.km n=c.km n:=by cases c with|fn f fv=>simp only[SC.er,SC.Pv,ao.km,SC.km,zaY];congr 1;funext c;exact SC.atL n c|ptr m _ _ _=>exact Hq m n|sl m _ _ _=>exact Hq m n|cF m _ _ _ _ _=>exact Hq m n|eE m _ _ _ _ _=>exact Hq m n|dE _ _ _ _ m _ _=>exact Hq m n|_=>rfl
def SV.km (n:Nat):SV->Bool
 |.one c=>c.km n
 |.agg cs=>cs.any (SC.km n)
 |.cT xs=>xs.any fun x=>x.2.any (SC.km n)
 |.arr _ _=>false
 |.pN _ _ xs=>xs.any fun x=>x.2.any (SC.km n)
theorem Vu (n:Nat) (l:List C):(l.map ao.c).any (ao.km n)=false:=by rw[zaY];induction l with|nil=>rfl|cons c l a=>rw[zbw,a];rfl
theorem Rq (n:Nat) (cs:List SC):(cs.map SC.er).any (ao.km n)=cs.any (SC.km n):=by rw[zaY];congr 1;funext c;exact SC.Rr n c
theorem SV.Rr (n:Nat) (v:SV):v.er.km n=v.km n:=by cases v with|one c=>exact SC.Rr n c|agg cs=>exact Rq n cs|cT xs=>simp only[SV.er,aw.km,SV.km,zaY];congr 1;funext x;exact Rq n x.2|arr ts x=>exact Vu n _|pN ts x xs=>have e:=Vu n (Ty.aQ ts x);simp only[SV.er,aw.km,SV.km,zbw];refine(congrArg (·||_) e).trans ?_;rw[zbX,zaY];congr 1;funext x;exact Rq n x.2
def ahj (n:Nat):Option SB->Bool
 |some (.box cs)=>cs.any (SC.km n)
 |_=>false
def Pp (n:Nat):List Nat->Bool
 |[]=>false
 |m::l=>match Pe n m with
  |true=>true
  |false=>Pp n l
theorem acs (n:Nat):∀l:List Nat,Pp n l=l.contains n
 |[]=>rfl
 |m::l=>by simp only[Pp,List.contains_cons];have e:(n==m)=Pe n m:=(by cases h:Pe n m with|true=>simp_all|false=>grind [zb1]);rw[e,acs n l];cases Pe n m<;>rfl
def ak.nV (σ:ak) (ke kh:List Nat):Nat->Bool:=fun n=>(σ.h n).isSome&&Pp n kh&&(zag aY n||ke.any (fun s=>(σ.env s).km n)||kh.any fun k=>ahj n (σ.h k))
theorem ak.ar9 (σ:ak) (ke a:List Nat):σ.er.nV ke a=σ.nV ke a:=by
 funext n;simp only[St.nV,ak.nV];have d:(σ.er.h n).isSome=(σ.h n).isSome:=acy σ.h n;have c:(fun s=>(σ.er.env s).km n)=fun s=>(σ.env s).km n:=by funext s;exact SV.Rr n _
 have e:(fun k=>match σ.er.h k with|some (.box cs)=>cs.any (·.km n)|_=>false)=fun k=>ahj n (σ.h k):=by
  funext k;have:σ.er.h k=(σ.h k).map SB.er:=rfl;rw[this];cases σ.h k with
  |none=>rfl
  |some b=>cases b with
   |box cs=>exact Rq n cs
   |row gr m ts xs=>rfl
   |kt ts x=>exact Vu n _
 rw[d,c,acs,Bool.and_comm (x:=(σ.h n).isSome)];exact congrArg (fun g:Nat->Bool=>(a.contains n&&(σ.h n).isSome&&((zag aY n||ke.any fun s=>SV.km n (σ.env s))||a.any g))) e
def ak.mU (σ:ak) (ke kh:List Nat):ak:=
 {env:=GD (σ.nV ke kh) σ.env ke,h:=Cr (σ.nV ke kh) σ.h kh,used:=fun n=>zag aY n||y7 (σ.nV ke kh) kh n}
theorem ak.at3 (σ:ak) (ke a:List Nat):(σ.mU ke a).er=σ.er.mU ke a:=by simp only[ak.mU,St.mU,ak.ar9];have c:=aiP (σ.nV ke a) σ.env ke;have d:=Ss (σ.nV ke a) σ.h a;have b:=aiQ (σ.nV ke a) a;show St.mk (wW (GD (σ.nV ke a) σ.env ke)) (eM (Cr (σ.nV ke a) σ.h a)) (fun n=>zag aY n||y7 (σ.nV ke a) a n)=_;rw[c,d,b];rfl
def xH (x c n:Nat):Nat:=match Pe n x with|true=>c|false=>n
theorem Kn (x c n:Nat):xH x c n=sv x c n:=by unfold xH sv;cases h:Pe n x with|true=>simp_all|false=>first|grind [zb1]|simp_all
def SC.tI (x c:Nat):SC->SC
 |.ptr n k sz off=>.ptr (xH x c n) k sz off
 |.sl n sz lo len=>.sl (xH x c n) sz lo len
 |.cF n k aZ off sz len=>.cF (xH x c n) k aZ off sz len
 |.eE n k aZ off sz i=>.eE (xH x c n) k aZ off sz i
 |.dE ts y off j n sz len=>.dE ts y off j (xH x c n) sz len
 |y=>y
def SC.cf (x c:Nat):SC->SC
 |.fn f fv=>.fn f (fv.map (SC.tI x c))
 |.ptr n k sz off=>.ptr (xH x c n) k sz off
 |.sl n sz lo len=>.sl (xH x c n) sz lo len
 |.cF n k aZ off sz len=>.cF (xH x c n) k aZ off sz len
 |.eE n k aZ off sz i=>.eE (xH x c n) k aZ off sz i
 |.dE ts y off j n sz len=>.dE ts y off j (xH x c n) sz len
 |.v t y=>.v t y
 |.nil ts=>.nil ts
 |.ez ts y off=>.ez ts y off
 |.cj=>.cj
theorem SC.atW (x c:Nat) (y:SC):(y.tI x c).er=y.er.tI x c:=by cases y<;>simp[SC.tI,SC.er,ao.tI,Kn]
theorem SC.D0 (x c:Nat) (y:SC):(y.cf x c).er=y.er.cf x c:=by cases y with|fn f fv=>simp only[SC.cf,SC.er,ao.cf,SC.Pv,zal];congr 1;exact By fun y _=>SC.atW x c y|ptr n k sz off=>simp only[SC.cf,SC.er,ao.cf,ao.tI,Kn]|sl n sz lo len=>simp only[SC.cf,SC.er,ao.cf,ao.tI,Kn]|cF n k a off sz len=>simp only[SC.cf,SC.er,ao.cf,ao.tI,Kn]|eE n k a off sz i=>simp only[SC.cf,SC.er,ao.cf,ao.tI,Kn]|dE ts y off j n sz len=>simp only[SC.cf,SC.er,ao.cf,ao.tI,Kn]|_=>rfl
theorem Rt (x c:Nat) (cs:List SC):(cs.map (SC.cf x c)).map SC.er=(cs.map SC.er).map (ao.cf x c):=by simp only[zal];exact By fun y _=>SC.D0 x c y
def SV.cf (x c:Nat):SV->SV
 |.one y=>.one (y.cf x c)
 |.agg ys=>.agg (ys.map (SC.cf x c))
 |.cT ys=>.cT (ys.map fun y=>(y.1,y.2.map (SC.cf x c)))
 |.arr ts y=>.arr ts y
 |.pN ts z ys=>.pN ts z (ys.map fun y=>(y.1,y.2.map (SC.cf x c)))
theorem Vv (x c:Nat) (l:List C):(l.map ao.c).map (ao.cf x c)=l.map .c:=by rw[zal];exact By fun _ _=>rfl
theorem SV.D0 (x c:Nat) (v:SV):(v.cf x c).er=v.er.cf x c:=by cases v with|one y=>simp only[SV.cf,SV.er,aw.cf,SC.D0]|agg cs=>simp only[SV.cf,SV.er,aw.cf,Rt]|cT xs=>simp only[SV.cf,SV.er,aw.cf,zal];congr 1;exact By fun y _=>by simp only[za9];rw[Rt]|arr ts y=>simp only[SV.cf,SV.er,aw.cf,Vv]|pN ts z xs=>simp only[SV.cf,SV.er,aw.cf,If,Vv,zal];congr 2;exact By fun y _=>by simp only[za9];rw[Rt]
def SB.cf (x c:Nat):SB->SB
 |.box cs=>.box (cs.map (SC.cf x c))
 |.row gr m ts xs=>.row gr m ts xs
 |.kt ts y=>.kt ts y
theorem SB.D0 (x c:Nat) (b:SB):(b.cf x c).er=b.er.cf x c:=by cases b with|box cs=>simp only[SB.cf,SB.er,aV.cf,Rt]|row gr m ts xs=>rfl|kt ts y=>simp only[SB.cf,SB.er,aV.cf,Vv]
def ak.cf (σ:ak) (x c:Nat):Option ak:=
  match Pe x c with
  |true=>some σ
  |false=>match zag aY x with
   |true=>some σ
   |false=>match σ.used c with
    |true=>none
    |false=>some
     {env:=fun s=>(σ.env s).cf x c
      h:=fun n=>match Pe n c with
        |true=>(σ.h x).map (SB.cf x c)
        |false=>match Pe n x with
         |true=>none
         |false=>(σ.h n).map (SB.cf x c)
      used:=fun n=>match Pe n c with
        |true=>σ.used x
        |false=>match Pe n x with
         |true=>false
         |false=>σ.used n}
theorem Ga {m n:Nat} (h:Pe m n=false):m≠n:=fun e=>by simp_all
theorem ak.D0 {σ σ1:ak} {x c:Nat} (h:σ.cf x c=some σ1):σ.er.cf x c=some σ1.er:=by
 unfold ak.cf at h;split at h
 ·simp_all [St.cf]
 ·rename_i e;split at h
  ·simp_all [St.cf,if_true]
  rename_i hx;split at h
  ·cases h
  ·rename_i d;injection h with h;subst h;have g:σ.er.used c=false:=d;simp only[St.cf,aq (Ga e),hx,g,zaD,if_false];congr 1;have mm:∀o:Option SB,(o.map (SB.cf x c)).map SB.er=(o.map SB.er).map (·.cf x c):=by
    intro o;cases o with
    |none=>rfl
    |some b=>simp only[IN,SB.D0]
   have f:(fun s=>(σ.er.env s).cf x c)=wW (fun s=>(σ.env s).cf x c):=by
    funext s;exact(SV.D0 x c (σ.env s)).symm
   have i:(fun n=>if n=c then(σ.er.h x).map (·.cf x c) else if n=x then none else(σ.er.h n).map (·.cf x c))=eM (fun n=>match Pe n c with
     |true=>(σ.h x).map (SB.cf x c)
     |false=>match Pe n x with
      |true=>none
      |false=>(σ.h n).map (SB.cf x c)):=by
    funext n;simp only[eM];cases hc:Pe n c with
    |true=>rw[ai (zaK hc)];exact(mm (σ.h x)).symm
    |false=>
     rw[aq (Ga hc)];cases hx:Pe n x with
     |true=>simp_all
     |false=>rw[aq (Ga hx)];exact(mm (σ.h n)).symm
   have a:(fun n=>if n=c then σ.er.used x else if n=x then false else σ.er.used n)=(fun n=>match Pe n c with
     |true=>σ.used x
     |false=>match Pe n x with
      |true=>false
      |false=>σ.used n):=by
    funext n;cases hc:Pe n c with
    |true=>rw[ai (zaK hc)];rfl
    |false=>
     rw[aq (Ga hc)];cases hx:Pe n x with
     |true=>simp_all
     |false=>rw[aq (Ga hx)];rfl
   rw[f,i,a];rfl
abbrev Cn:=List (Bool×Nat×Nat×Nat×Mode×List Ty)
def Cn.er (cn:Cn):List (Bool×Nat×Nat×Nat×Mode):=cn.map fun x=>(x.1,x.2.1,x.2.2.1,x.2.2.2.1,x.2.2.2.2.1)
def ak.ph (σ:ak) (c:Nat):Mode->ak
 |.bh=>match σ.h c with
  |some (.row gr .bi ts xs)=>σ.fQ c (.row gr .bh ts xs)
  |_=>σ
 |_=>σ
theorem ak.alN (σ:ak) (c:Nat) (m:Mode):(σ.ph c m).er=σ.er.ph c m:=by cases m with|live=>rfl|bi=>rfl|bh=>simp only[ak.ph,St.ph];have hh:σ.er.h c=(σ.h c).map SB.er:=rfl;rw[hh];cases σ.h c with|none=>rfl|some b=>cases b with|box cs=>rfl|row gr m ts xs=>grind [SB.er,ak.sK]|kt ts x=>rfl
def D3 (σ:ak):Bool×Nat×Nat×Nat×Mode×List Ty->Option ak
 |(true,n,j,c,m,us)=>match σ.h n with
  |some (.box cs)=>match cs[j]? with
   |some (.sl a _ _ _)=>(σ.cf a c).map fun σ1=>σ1.ph c m
   |some (.nil ts)=>match ts with
    |[]=>some σ
    |t::ts=>match σ.ins c (.row true m (t::ts) []) with
     |some σ1=>some (σ1.fQ n (.box (cs.set j (.sl c (t::ts).length 0 0))))
     |none=>none
   |_=>some σ
  |_=>some σ
 |(false,n,j,c,m,us)=>match σ.env n with
  |.one (.sl a _ _ _)=>(σ.cf a c).map fun σ1=>σ1.ph c m
  |.one (.nil ts)=>match ts with
   |[]=>some σ
   |t::ts=>match σ.ins c (.row true m (t::ts) []) with
    |some σ1=>some (σ1.put (some n) (.one (.sl c (t::ts).length 0 0)))
    |none=>none
  |_=>some σ
theorem aiO {σ σ1:ak} {a c:Nat} {m:Mode} (h:(σ.cf a c).map (fun σ1=>σ1.ph c m)=some σ1):(σ.er.cf a c).map (fun σ1=>σ1.ph c m)=some σ1.er:=by rw[zae] at h;obtain⟨σ2,e,rfl⟩:=h;rw[ak.D0 e,IN,ak.alN]
theorem avX {σ σ1:ak} {x:Bool×Nat×Nat×Nat×Mode×List Ty} (h:D3 σ x=some σ1):σ.er.canon (x.1,x.2.1,x.2.2.1,x.2.2.2.1,x.2.2.2.2.1)=some σ1.er:=by obtain⟨b,n,j,c,m,us⟩:=x;cases b with|true=>simp only[D3] at h;simp only[St.canon];have hh:σ.er.h n=(σ.h n).map SB.er:=rfl;rw[hh];split at h;rename_i cs hn;simp only[hn,IN,SB.er,zac];split at h;rename_i a _ _ _ d;simp only[d,IN,SC.er];exact aiO h;rename_i ts d;simp only[d,IN,SC.er];split at h;simp_all;rename_i t ts;split at h;rename_i σ2 e;injection h with h;subst h;have i:=ak.uk e;simp_all [zaj,zbI,if_true,ak.sK,SB.er,List.map_set,SC.er];cases h;rename_i g f;injection h with h;subst h;(cases d:cs[j]? with|none=>rfl|some y=>cases y<;>first|rfl|(exfalso;exact g _ _ _ _ d)|(exfalso;exact f _ d));rename_i hb;injection h with h;subst h;(cases hn:σ.h n with|none=>rfl|some b=>cases b with|box cs=>simp_all|row gr m ts xs=>rfl|kt ts x=>simp_all [IN,SB.er,zac])|false=>simp only[D3] at h;simp only[St.canon];have hh:σ.er.env n=(σ.env n).er:=rfl;rw[hh];split at h;rename_i a _ _ _ hn;simp only[hn,SV.er,SC.er];exact aiO h;rename_i ts hn;simp only[hn,SV.er,SC.er];split at h;simp_all;rename_i t ts;split at h;rename_i σ2 e;injection h with h;subst h;have i:=ak.uk e;rw[show(SB.row true m (t::ts) []).er=aV.row true m (t::ts).length [] from rfl] at i;simp_all [zaj,zbI,if_true,ak.fJ,SV.er,SC.er];cases h;rename_i g f;injection h with h;subst h;cases hn:σ.env n with|one y=>(cases y<;>first|rfl|(exfalso;exact g _ _ _ _ hn)|(exfalso;exact f _ hn))|_=>rfl
def J0 (σ:ak):Cn->Option ak
 |[]=>some σ
 |x::l=>match D3 σ x with
  |some σ1=>J0 σ1 l
  |none=>none
theorem ahM:∀{a:Cn} {σ σ1:ak},J0 σ a=some σ1->σ.er.zq a.er=some σ1.er
 |[],σ,σ1,h=>by simp only[J0] at h;injection h with h;subst h;rfl
 |x::l,σ,σ1,h=>by simp only[J0] at h;split at h;rename_i σ2 e;have i:=avX e;have j:=ahM h;simp_all [Cn.er,If,St.zq];cases h
section
variable {ρ:Type}
def DQ (n:Nat) (k:Nat->Option ρ):List Nat->Option ρ
 |[]=>k n
 |c::l=>match Pe n c with
  |true=>k c
  |false=>DQ n k l
theorem agc (n:Nat) (k:Nat->Option ρ):∀l,DQ n k l=k n
 |[]=>rfl
 |c::l=>by simp only[DQ];split;simp_all;exact agc n k l
def Wb (kh:List Nat) (c:SC) (k:SC->Option ρ):Option ρ:=
 match c with
 |.v t x=>k (.v t x)
 |.nil ts=>k (.nil ts)
 |.ptr n kk sz off=>DQ n (fun n=>k (.ptr n kk sz off)) kh
 |.ez ts x off=>k (.ez ts x off)
 |.sl n sz lo len=>DQ n (fun n=>k (.sl n sz lo len)) kh
 |.cF n a b c d e=>DQ n (fun n=>k (.cF n a b c d e)) kh
 |.eE n a b c d e=>DQ n (fun n=>k (.eE n a b c d e)) kh
 |.dE ts x off j n sz len=>DQ n (fun n=>k (.dE ts x off j n sz len)) kh
 |.fn f fv=>k (.fn f fv)
 |.cj=>k .cj
theorem aec (a:List Nat) (c:SC) (k:SC->Option ρ):Wb a c k=k c:=by cases c<;>first|rfl|exact agc _ _ _
def L8 (kh:List Nat):List SC->(List SC->Option ρ)->Option ρ
 |[],k=>k []
 |c::cs,k=>Wb kh c fun c=>L8 kh cs fun cs=>k (c::cs)
theorem Wc (a:List Nat):∀(cs:List SC) (k:List SC->Option ρ),L8 a cs k=k cs
 |[],k=>rfl
 |c::cs,k=>by simp only[L8,aec,Wc a cs]
def yg (kh:List Nat) (env:Nat->SV):List Nat->(List (Nat×SV)->Option ρ)->Option ρ
 |[],k=>k []
 |s::ss,k=>match env s with
  |.one .cj=>yg kh env ss k
  |.one c=>Wb kh c fun c=>yg kh env ss fun l=>k ((s,.one c)::l)
  |.agg cs=>L8 kh cs fun cs=>yg kh env ss fun l=>k ((s,.agg cs)::l)
  |.cT xs=>yg kh env ss fun l=>k ((s,.cT xs)::l)
  |.arr ts x=>yg kh env ss fun l=>k ((s,.arr ts x)::l)
  |.pN ts x xs=>yg kh env ss fun l=>k ((s,.pN ts x xs)::l)
def zG (kh:List Nat) (h:Nat->Option SB):List Nat->(List (Nat×Option SB)->Option ρ)->Option ρ
 |[],k=>k []
 |n::ns,k=>match h n with
  |none=>zG kh h ns k
  |some (.box cs)=>L8 kh cs fun cs=>zG kh h ns fun l=>k ((n,some (.box cs))::l)
  |some (.row gr m ts xs)=>zG kh h ns fun l=>k ((n,some (.row gr m ts xs))::l)
  |some (.kt ts x)=>zG kh h ns fun l=>k ((n,some (.kt ts x))::l)
def E2 (u:Nat->Bool):List Nat->(List Nat->Option ρ)->Option ρ
 |[],k=>k []
 |n::ns,k=>match u n with
  |true=>E2 u ns fun l=>k (n::l)
  |false=>E2 u ns k
def Cv:List Nat->Nat->Bool
 |[],n=>zag aY n
 |m::l,n=>match Pe n m with
  |true=>true
  |false=>Cv l n
def ak.H8 (ke kh:List Nat) (σ:ak) (k:ak->Option ρ):Option ρ:=
 yg kh σ.env ke fun le=>zG kh σ.h kh fun lh=>E2 σ.used kh fun lu=>k ⟨qY le,oL lh,Cv lu⟩
structure m9 (ke kh:List Nat) (σ:ak):Prop where
 e:∀s,s∉ke->σ.env s=.one .cj
 h:∀n,n∉kh->σ.h n=none
 u:∀n,n∉kh->σ.used n=zag aY n
 p:∀n,σ.used n=false->zag aY n=false
theorem aed (c:List Nat) (env:Nat->SV):∀(b:List Nat) (k:List (Nat×SV)->Option ρ),∃l:List (Nat×SV),yg c env b k=k l/\∀s,qY l s=if s∈b then env s else .one .cj
 |[],k=>⟨[],rfl,fun s=>by simp[qY]⟩
 |a::b,k=>by
  have eW:∀v:SV,env a=v->(∀k':List (Nat×SV)->Option ρ,∃l,yg c env b k'=k' l/\∀s,qY l s=if s∈b then env s else .one .cj)->
    ∃l:List (Nat×SV),yg c env b (fun l=>k ((a,v)::l))=k l/\∀s,qY l s=if s∈a::b then env s else .one .cj:=by
   intro v g d;obtain⟨l,e,f⟩:=d fun l=>k ((a,v)::l);refine⟨(a,v)::l,e,fun s=>?_⟩;simp only[qY,mZ];split
   ·simp_all
   ·simp_all
  have d:=fun k':List (Nat×SV)->Option ρ=>aed c env b k';simp only[yg];split
  ·rename_i g;obtain⟨l,e,f⟩:=d k
   grind
  ·simp_all [aec]
  ·simp_all [Wc]
  ·simp_all
  ·simp_all
  simp_all
theorem aee (b:List Nat) (h:Nat->Option SB):∀(ns:List Nat) (k:List (Nat×Option SB)->Option ρ),∃l:List (Nat×Option SB),zG b h ns k=k l/\∀n,oL l n=if n∈ns then h n else none
 |[],k=>⟨[],rfl,fun s=>by simp[oL]⟩
 |a::ns,k=>by
  have eW:∀v:Option SB,h a=v->(∀k':List (Nat×Option SB)->Option ρ,∃l,zG b h ns k'=k' l/\∀s,oL l s=if s∈ns then h s else none)->
    ∃l:List (Nat×Option SB),zG b h ns (fun l=>k ((a,v)::l))=k l/\∀s,oL l s=if s∈a::ns then h s else none:=by
   intro v f c;obtain⟨l,d,e⟩:=c fun l=>k ((a,v)::l);refine⟨(a,v)::l,d,fun s=>?_⟩;simp only[oL,mZ];split
   ·simp_all
   ·simp_all
  have c:=fun k':List (Nat×Option SB)->Option ρ=>aee b h ns k';simp only[zG];split
  ·rename_i f;obtain⟨l,d,e⟩:=c k
   grind
  ·simp_all [Wc]
  ·simp_all
  simp_all
theorem We (u:Nat->Bool) (c:∀n,u n=false->zag aY n=false):∀(ns:List Nat) (k:List Nat->Option ρ),∃l:List Nat,E2 u ns k=k l/\∀n,Cv l n=if n∈ns then u n else zag aY n
 |[],k=>⟨[],rfl,fun s=>by simp[Cv]⟩
 |a::ns,k=>by simp only[E2];split;rename_i f;obtain⟨l,b,d⟩:=We u c ns fun l=>k (a::l);refine⟨a::l,b,fun s=>?_⟩;simp only[Cv];split;simp_all;rename_i e;have bm:=Ga e;simp_all;rename_i f;obtain⟨l,b,d⟩:=We u c ns k;grind
theorem PM {ke a:List Nat} {σ:ak} (W:m9 ke a σ) (k:ak->Option ρ):σ.H8 ke a k=k σ:=by unfold ak.H8;obtain⟨le,j,n⟩:=aed a σ.env ke fun le=>zG a σ.h a fun c=>E2 σ.used a fun b=>k ⟨qY le,oL c,Cv b⟩;rw[j];obtain⟨c,l,f⟩:=aee a σ.h a fun c=>E2 σ.used a fun b=>k ⟨qY le,oL c,Cv b⟩;rw[l];obtain⟨b,g,u2⟩:=We σ.used W.p a fun b=>k ⟨qY le,oL c,Cv b⟩;rw[g];have o:qY le=σ.env:=(by funext s;rw[n s];split;rfl;rename_i d;exact(W.e s d).symm);have m:oL c=σ.h:=(by funext s;rw[f s];split;rfl;rename_i d;exact(W.h s d).symm);have i:Cv b=σ.used:=(by funext s;rw[u2 s];split;rfl;rename_i d;exact(W.u s d).symm);rw[o,m,i]
theorem m9.mU (ke a:List Nat) (σ:ak):m9 ke a (σ.mU ke a):= ⟨fun s b=>aab _ _ _ s b,fun n hn=>aac _ _ _ n hn,fun n hn=>by show(zag aY n||y7 _ _ n)=_;rw[aad _ _ n hn,zbY], fun n hn=>by have cV:(zag aY n||y7 _ _ n)=false:=hn;simp_all⟩
theorem m9.cf {ke b:List Nat} {σ σ1:ak} {a c:Nat} (W:m9 ke b σ) (hc:c∈b) (h:σ.cf a c=some σ1):m9 ke b σ1:=by unfold ak.cf at h;split at h;simp_all;split at h;simp_all;rename_i sY;split at h;cases h;rename_i f;injection h with h;subst h;refine⟨fun s d=>?_,fun n hn=>?_,fun n hn=>?_,fun n hn=>?_⟩;show(σ.env s).cf a c=_;rw[W.e s d];rfl;simp only;split;simp_all;split;rfl;rw[W.h n hn];rfl;simp only;split;simp_all;split;simp_all;exact W.u n hn;simp only at hn;split at hn;rename_i e;rw[zaK e];exact W.p c f;split at hn;simp_all;exact W.p n hn
theorem m9.ins {ke a:List Nat} {σ σ1:ak} {c:Nat} {b:SB} (W:m9 ke a σ) (hc:c∈a) (h:σ.ins c b=some σ1):m9 ke a σ1:=by unfold ak.ins at h;split at h;cases h;rename_i Qp;injection h with h;subst h;refine⟨W.e,fun n hn=>?_,fun n hn=>?_,fun n hn=>?_⟩;show aN σ.h c _ n=_;rw[dP _ _ _ _ (fun e=>hn (by simp_all))];exact W.h n hn;show aN σ.used c _ n=_;rw[dP _ _ _ _ (fun e=>hn (by simp_all))];exact W.u n hn;have d:aN σ.used c true n=false:=hn;by_cases e:n=c;simp_all [dd];rw[dP _ _ _ _ e] at d;exact W.p n d
theorem m9.ph {ke b:List Nat} {σ:ak} (W:m9 ke b σ) (c:Nat) (m:Mode):m9 ke b (σ.ph c m):=by cases m with|live=>exact W|bi=>exact W|bh=>simp only[ak.ph];split;rename_i gr ts xs hn;exact⟨W.e,fun n a=>by show aN σ.h c _ n=none;have d:n≠c:=fun e=>(by subst e;rw[W.h n a] at hn;cases hn);rw[dP _ _ _ _ d];exact W.h n a,W.u,W.p⟩;exact W
theorem m9.N2 {ke b:List Nat} {σ σ1:ak} {a c:Nat} {m:Mode} (W:m9 ke b σ) (d:c∈b) (h:(σ.cf a c).map (fun σ1=>σ1.ph c m)=some σ1):m9 ke b σ1:=by rw[zae] at h;obtain⟨σ2,e,rfl⟩:=h;exact(W.cf d e).ph c m
theorem m9.canon {ke d:List Nat} {σ σ1:ak} {x:Bool×Nat×Nat×Nat×Mode×List Ty} (W:m9 ke d σ) (f:x.2.2.2.1∈d) (h:D3 σ x=some σ1):m9 ke d σ1:=by obtain⟨b,n,j,c,m,us⟩:=x;simp only at f;have mW:some σ=some σ1->m9 ke d σ1:=fun h=>(by simp_all);cases b with|true=>simp only[D3] at h;split at h;rename_i cs hn;split at h;exact W.N2 f h;split at h;exact mW h;split at h;rename_i σ2 e;injection h with h;subst h;have a:=W.ins f e;have i:n∈d:=(by rcases zbG (n∈d) with h|h;exact h;rw[W.h n h] at hn;cases hn);exact⟨a.e,fun q g=>by show aN σ2.h n _ q=_;rw[dP _ _ _ _ (fun e=>g (by simp_all))];exact a.h q g,a.u,a.p⟩;cases h;exact mW h;exact mW h|false=>simp only[D3] at h;split at h;exact W.N2 f h;rename_i ts hn;split at h;exact mW h;split at h;rename_i σ2 e;injection h with h;subst h;have a:=W.ins f e;have i:n∈ke:=(by rcases zbG (n∈ke) with h|h;exact h;rw[W.e n h] at hn;cases hn);exact⟨fun q g=>by show aN σ2.env n _ q=_;rw[dP _ _ _ _ (fun e=>g (by simp_all))];exact a.e q g,a.h,a.u,a.p⟩;cases h;exact mW h
def RS (ke kh:List Nat):Cn->ak->(ak->Option ρ)->Option ρ
 |[],σ,k=>k σ
 |x::l,σ,k=>match D3 σ x with
  |some σ1=>match List.elem x.2.2.2.1 kh with
   |true=>σ1.H8 ke kh fun σ2=>RS ke kh l σ2 k
   |false=>none
  |none=>none
theorem ahL {ke c:List Nat}:∀{b:Cn} {σ:ak} {k:ak->Option ρ} {r:ρ},m9 ke c σ->RS ke c b σ k=some r->∃σ1,J0 σ b=some σ1/\k σ1=some r
 |[],σ,k,r,W,h=>⟨σ,rfl,h⟩
 |x::l,σ,k,r,W,h=>by simp only[RS] at h;split at h;rename_i σ1 e;split at h;rename_i hm;have a:=W.canon (by simpa using hm) e;rw[PM a] at h;obtain⟨σ2,h1,h2⟩:=ahL a h;simp_all [J0];cases h;cases h
def J9 (sh:oG) (kh:List Nat) (cn:Cn) (σ:ak) (k:sh.L.D->Option ρ):Option ρ:=
 (σ.mU sh.ke kh).H8 sh.ke kh fun σ1=>(σ1.mU sh.ke kh).H8 sh.ke kh fun σ2=>RS sh.ke kh cn σ2 fun jX=>(jX.mU sh.ke kh).H8 sh.ke kh fun σ4=>sh.flat kh σ4 k
theorem Sf {a:oG} {c:List Nat} {b:Cn} {σ:ak} {k:a.L.D->Option ρ} {r:ρ} (h:J9 a c b σ k=some r): ∃x,σ.er.head a.ke c b.er=some (a.un x).er/\k x=some r:=by unfold J9 at h;rw[PM (m9.mU _ _ _),PM (m9.mU _ _ _)] at h;obtain⟨σ1,e,h⟩:=ahL (m9.mU _ _ _) h;rw[PM (m9.mU _ _ _)] at h;obtain⟨x,h1,h2⟩:=oG.vG h (fun s d=>aab _ _ _ s d) (fun n hn=>⟨aac _ _ _ n hn,by show(zag aY n||y7 _ _ n)=_;rw[aad _ _ n hn,zbY]⟩);have i:=ahM e;grind [ak.at3,St.head]
end
inductive bR where
 |skip
 |fz (pU:Bool) (aR:List e8)
 |tH (ps:List (Nat×Nat)) (aR:List e8)
 |Ay (its:List AV)
 |wy (pU:Bool) (ps:List (Nat×Nat)) (aR:List e8) (sp:Le)
 |seq (a b:bR)
 |cond (c:eQ) (a b:bR)
 |block (id:Nat) (c:bR)
 |join (sh:oG) (kh:List Nat) (cn:Cn) (c:bR)
 |loop (id:Nat) (sh:oG) (kh:List Nat) (cn:Cn) (c:bR)
 |exit (id:Nat)
 |ret
def bR.er:bR->mH
 |.skip=>.skip
 |.fz d aR=>.fz d (aR.map e8.er)
 |.tH ps aR=>.tH ps (aR.map e8.er)
 |.Ay its=>.Ay (its.map AV.er)
 |.wy dr ps aR sp=>.wy dr ps (aR.map e8.er) sp.er
 |.seq a b=>.seq a.er b.er
 |.cond c a b=>.cond c.er a.er b.er
 |.block id c=>.block id c.er
 |.join sh kh cn c=>.join sh.ke kh cn.er c.er
 |.loop id sh kh cn c=>.loop id sh.ke kh cn.er c.er
 |.exit id=>.exit id
 |.ret=>.ret
def ak.Ys (σ:ak) (c:eQ) (b:Bool):ak:=
 match c with
 |.t n=>σ.lit n b
 |.k _=>σ
def DB {X ρ:Type} (o:Option ρ):Option (X⊕ρ):=o.ae fun r=>some (.inr r)
theorem IW {X ρ:Type} {o:Option ρ} {s:X⊕ρ} (h:DB o=some s):∃r,o=some r/\s=.inr r:=by grind [fC,DB]
def pg (N:Nat) (T:List aF):bR->{ρ:Type}->ak->(ak->Option ρ)->(Nat->ak->Option ρ)->(ak->Option ρ)->Option ρ
 |.skip,_,σ,k,_,_=>k σ
 |.fz _ aR,_,σ,k,_,_=>tM T aR σ k
 |.tH ps aR,_,σ,k,_,_=>u4 T ps aR [] σ k
 |.Ay its,_,σ,k,_,_=>Oc T its σ k
 |.wy false _ aR sp,_,σ,k,_,_=>tM T aR σ fun σ1=>Kg sp σ1 k
 |.wy true ps aR sp,_,σ,k,_,_=>u4 T ps aR [] σ fun σ1=>Kg sp σ1 k
 |.seq a b,_,σ,k,ex,kr=>pg N T a σ (fun σ1=>pg N T b σ1 k ex kr) ex kr
 |.cond c a b,_,σ,k,ex,kr=>match σ.ev c with
  |.one (.v .bool t)=>aA t (pg N T a (σ.Ys c true) k ex kr) (pg N T b (σ.Ys c false) k ex kr)
  |_=>none
 |.block id c,_,σ,k,ex,kr=>pg N T c σ k (fun i σ1=>match Pe i id with|true=>k σ1|false=>ex i σ1) kr
 |.join sh kh cn c,ρ,σ,k,ex,kr=>
  bN (pg N T c (ρ:=sh.L.D⊕ρ) σ (fun σ1=>J9 sh kh cn σ1 fun x=>some (.inl x)) (fun i σ1=>DB (ex i σ1)) (fun σ1=>DB (kr σ1))) fun x=>k (sh.un x)
 |.loop id sh kh cn c,ρ,σ,k,ex,kr=>
  J9 sh kh cn σ fun x0=>bS N (fun x=>pg N T c (ρ:=sh.L.D⊕ρ) (sh.un x) (fun σ1=>J9 sh kh cn σ1 fun x'=>some (.inl x')) (fun i σ1=>DB (ex i σ1)) (fun σ1=>DB (kr σ1))) x0
 |.exit id,_,σ,_,ex,_=>ex id σ
 |.ret,_,σ,_,_,kr=>kr σ
def abf {ρ:Type} (k:ak->Option ρ) (ex:Nat->ak->Option ρ) (kr:ak->Option ρ) (r:ρ):xT->Prop
 |.gT τ=>∃gk:ak,τ=gk.er/\k gk=some r
 |.ext i τ=>∃gk:ak,τ=gk.er/\ex i gk=some r
 |.ret τ=>∃gk:ak,τ=gk.er/\kr gk=some r
theorem afK {σ:ak} {c:eQ} {b:Bool} (h:σ.ev c=.one (.v .bool b)):(σ.Ys c b).er=σ.er:=by cases c with|t n=>exact ak.LO h|k v=>rfl
theorem u0 {T:List aF}:∀(m:bR) {ρ:Type} {σ:ak} {k:ak->Option ρ} {l:Nat->ak->Option ρ} {p:ak->Option ρ} {r:ρ},pg bW T m σ k l p=some r->
    ∃o:xT,e9 (dG T) m.er σ.er=some o/\abf k l p r o
  |.skip,ρ,σ,k,l,p,r,h=>⟨.gT σ.er,rfl,σ,rfl,h⟩
  |.fz d aR,ρ,σ,k,l,p,r,h=>by
   obtain⟨σ1,g,f⟩:=Oe (h:tM T aR σ k=some r);exact⟨.gT σ1.er,by simp only[bR.er,e9,g],σ1,rfl,f⟩
  |.tH ps aR,ρ,σ,k,l,p,r,h=>by
   obtain⟨σ1,C,g,f,q⟩:=RT (h:u4 T ps aR [] σ k=some r);exact⟨.gT σ1.er,by simp only[bR.er,e9,g,f,cond_true],σ1,rfl,q⟩
  |.Ay its,ρ,σ,k,l,p,r,h=>by
   obtain⟨σ1,g,f⟩:=ZG (h:Oc T its σ k=some r);exact⟨.gT σ1.er,by simp only[bR.er,e9,g],σ1,rfl,f⟩
  |.wy false ps aR sp,ρ,σ,k,l,p,r,h=>by
   obtain⟨σ1,g,f⟩:=Oe (h:tM T aR σ (fun σ1=>Kg sp σ1 k)=some r);obtain⟨σ2,q,u⟩:=aiB f;exact⟨.gT σ2.er,by simp only[bR.er,e9,g,q],σ2,rfl,u⟩
  |.wy true ps aR sp,ρ,σ,k,l,p,r,h=>by
   obtain⟨σ1,C,g,hp,f⟩:=RT (h:u4 T ps aR [] σ (fun σ1=>Kg sp σ1 k)=some r);obtain⟨σ2,q,u⟩:=aiB f;exact⟨.gT σ2.er,by simp_all [bR.er,e9,cond_true],σ2,rfl,u⟩
  |.seq a b,ρ,σ,k,l,p,r,h=>by
   obtain⟨o,g,f⟩:=u0 a (h:pg bW T a σ (fun σ1=>pg bW T b σ1 k l p) l p=some r);cases o with
   |gT τ=>
    obtain⟨j,rfl,f⟩:=f;obtain⟨o2,q,u⟩:=u0 b f
    simp_all [bR.er,e9]
   |ext i τ=>exact⟨.ext i τ,by simp only[bR.er,e9,g],f⟩
   |ret τ=>exact⟨.ret τ,by simp only[bR.er,e9,g],f⟩
  |.cond c a b,ρ,σ,k,l,p,r,h=>by
   simp only[pg] at h;split at h
   · rename_i t z;have eH:σ.er.ev c.er=.one (.c (.bool t)):=by rw[ak.fS,z];rfl
     cases ht:(t:Bool) with
     |true=>
      rw[ht] at h;simp only[Lz] at h;obtain⟨o,g,f⟩:=u0 a h;rw[afK (by rw[z,ht])] at g
      simp_all [bR.er,e9,if_true]
     |false=>
      rw[ht] at h;simp only[Lw] at h;obtain⟨o,g,f⟩:=u0 b h;rw[afK (by rw[z,ht])] at g
      simp_all [bR.er,e9,zaD,if_false]
   · cases h
  |.block id c,ρ,σ,k,l,p,r,h=>by
   obtain⟨o,g,f⟩:=u0 c (h:pg bW T c σ k (fun i σ1=>match Pe i id with|true=>k σ1|false=>l i σ1) p=some r)
   cases o with
   |gT τ=>exact⟨.gT τ,by simp only[bR.er,e9,g],f⟩
   |ret τ=>exact⟨.ret τ,by simp only[bR.er,e9,g],f⟩
   |ext i τ=>
    obtain⟨j,rfl,f⟩:=f;simp only at f;split at f
    · rename_i e;exact⟨.gT j.er,by simp_all [bR.er,e9],j,rfl,f⟩
    · rename_i e;exact⟨.ext i j.er,by simp only[bR.er,e9,g,aq (Ga e)],j,rfl,f⟩
  |.join sh kh cn c,ρ,σ,k,l,p,r,h=>by
   simp only[pg,bN,zba] at h;obtain⟨s,E,h⟩:=h;obtain⟨o,g,f⟩:=u0 c E;cases o with
   |gT τ=>
    obtain⟨j,rfl,f⟩:=f;obtain⟨x,q,u⟩:=Sf f;injection u with u;subst u;exact⟨.gT (sh.un x).er,by simp only[bR.er,e9,g,q],sh.un x,rfl,h⟩
   |ext i τ=>
    obtain⟨j,rfl,f⟩:=f;obtain⟨y,q,rfl⟩:=IW f;injection h with h;subst h;exact⟨.ext i j.er,by simp only[bR.er,e9,g],j,rfl,q⟩
   |ret τ=>
    obtain⟨j,rfl,f⟩:=f;obtain⟨y,q,rfl⟩:=IW f;injection h with h;subst h;exact⟨.ret j.er,by simp only[bR.er,e9,g],j,rfl,q⟩
  |.loop id sh kh cn c,ρ,σ,k,l,p,r,h=>by
   simp only[pg] at h;obtain⟨v,A,h⟩:=Sf h;simp only[bR.er,e9];have eW:∀(n:Nat) (v:sh.L.D) (σc:St),σc.head sh.ke kh cn.er=some (sh.un v).er->
       bS n (fun x=>pg bW T c (ρ:=sh.L.D⊕ρ) (sh.un x) (fun σ1=>J9 sh kh cn σ1 fun x'=>some (.inl x')) (fun i σ1=>DB (l i σ1)) (fun σ1=>DB (p σ1))) v=some r->
       ∃o:xT,Jk n (fun σ=>match σ.head sh.ke kh cn.er with|some σ1=>e9 (dG T) c.er σ1|none=>none) σc=some o/\abf k l p r o:=by
    intro n;induction n with
    |zero=>simp_all [bS]
    |succ n ih=>
     intro v σc A h;simp only[bS] at h;simp only[Jk,A];split at h
     · rename_i x' w;obtain⟨o,g,f⟩:=u0 c w;cases o with
       |gT τ=>
        obtain⟨j,rfl,f⟩:=f;obtain⟨B,q,u⟩:=Sf f
        grind
       |ext i τ=>
        obtain⟨j,rfl,f⟩:=f;obtain⟨y,_,e⟩:=IW f;cases e
       |ret τ=>
        obtain⟨j,rfl,f⟩:=f;obtain⟨y,_,e⟩:=IW f;cases e
     · rename_i y w;injection h with h;subst h;obtain⟨o,g,f⟩:=u0 c w;cases o with
       |gT τ=>
        obtain⟨j,rfl,f⟩:=f;obtain⟨B,q,u⟩:=Sf f
        simp_all
       |ext i τ=>
        obtain⟨j,rfl,f⟩:=f;obtain⟨y',q,e⟩:=IW f;injection e with e;subst e;exact⟨.ext i j.er,by simp only[g],j,rfl,q⟩
       |ret τ=>
        obtain⟨j,rfl,f⟩:=f;obtain⟨y',q,e⟩:=IW f;injection e with e;subst e;exact⟨.ret j.er,by simp only[g],j,rfl,q⟩
     · cases h
   grind
  |.exit id,ρ,σ,k,l,p,r,h=>⟨.ext id σ.er,rfl,σ,rfl,h⟩
  |.ret,ρ,σ,k,l,p,r,h=>⟨.ret σ.er,rfl,σ,rfl,h⟩
def wA:mH->Bool
 |.skip|.ret|.exit _=>true
 |.fz _ aR|.tH _ aR=>aR.all fun o=>zag o.op.jZ 1
 |.seq a b=>wA a&&wA b
 |.cond _ a b=>wA a&&wA b
 |.block _ c=>wA c
 |_=>false
structure iH (σ σ':St):Prop where
 h:∀n,σ.used n=true->σ'.h n=σ.h n
 u:∀n,σ.used n=true->σ'.used n=true
theorem iH.refl (σ:St):iH σ σ:=⟨fun _ _=>rfl,fun _ h=>h⟩
theorem iH.trans {σ σ1 σ2:St} (a:iH σ σ1) (b:iH σ1 σ2):iH σ σ2:=⟨fun n hn=>(b.h n (a.u n hn)).trans (a.h n hn),fun n hn=>b.u n (a.u n hn)⟩
theorem iH.put (σ:St) (d:Option Nat) (v:aw):iH σ (σ.put d v):=by cases d<;>exact⟨fun _ _=>rfl,fun _ h=>h⟩
theorem iH.eU:∀{l:List (Nat×aV)} {σ σ':St},σ.eU l=some σ'->iH σ σ'
 |[],σ,σ',h=>by simp only[St.eU] at h;injection h with h;subst h;exact iH.refl _
 |(n,b)::l,σ,σ',h=>by simp only[St.eU] at h;split at h;rename_i σ1 e;obtain⟨a,rfl⟩:=oR e;refine iH.trans ⟨fun m hm=>?_,fun m hm=>?_⟩ (iH.eU h);show aN σ.h n (some b) m=_;rw[dP _ _ _ _ (fun e=>by subst e;rw[a] at hm;cases hm)];show aN σ.used n true m=true;rw[mZ];split;rfl;exact hm;cases h
theorem iH.exec {T:bz} {d:Option Nat} {op:dB} {σ σ':St} (a:zag op.jZ 1=true) (h:exec T d op σ=some σ'):iH σ σ':=by rw[ul T d op σ (zbg a)] at h;cases hr:rd T d op σ.ev σ.h with|none=>rw[hr] at h;cases h|some x=>rw[hr] at h;simp only[Option.bind_some,jg] at h;rw[zae] at h;obtain⟨σ1,b,rfl⟩:=h;exact(iH.eU b).trans (iH.put _ _ _)
theorem iH.gA {T:bz} {o:dC} {σ σ':St} (a:zag o.op.jZ 1=true) (h:gA T o σ=some σ'):iH σ σ':=by unfold Am.gA at h;split at h;exact iH.exec a h;split at h;split at h;exact iH.exec a h;injection h with h;subst h;exact iH.put _ _ _;injection h with h;subst h;exact iH.put _ _ _;cases h
theorem iH.iv {T:bz}:∀{os:List dC} {σ σ':St},os.all (fun o=>zag o.op.jZ 1)=true->iv T os σ=some σ'->iH σ σ'
 |[],σ,σ',_,h=>by simp only[Am.iv] at h;injection h with h;subst h;exact iH.refl _
 |o::os,σ,σ',hc,h=>by simp only[zaS,AN] at hc;simp only[Am.iv] at h;split at h;rename_i σ1 e;exact(iH.gA hc.1 e).trans (iH.iv hc.2 h);cases h
theorem iH.n7 {T:bz}:∀{os:List dC} {acc a:List (Option FP)} {σ σ':St},os.all (fun o=>zag o.op.jZ 1)=true->n7 T os acc σ=some (a,σ')->iH σ σ'
 |[],acc,a,σ,σ',_,h=>by simp only[Am.n7] at h;injection h with h;injection h with _ h;subst h;exact iH.refl _
 |o::os,acc,a,σ,σ',hc,h=>by simp only[zaS,AN] at hc;simp only[Am.n7] at h;split at h;rename_i σ1 e;exact(iH.gA hc.1 e).trans (iH.n7 hc.2 h);cases h
def xT.st:xT->St
 |.gT σ=>σ
 |.ext _ σ=>σ
 |.ret σ=>σ
theorem Gs {T:bz}:∀(j:mH) {σ:St} {o:xT},wA j=true->e9 T j σ=some o->iH σ o.st
 |.skip,σ,o,_,h=>by simp only[e9] at h;injection h with h;subst h;exact iH.refl _
 |.ret,σ,o,_,h=>by simp only[e9] at h;injection h with h;subst h;exact iH.refl _
 |.exit i,σ,o,_,h=>by simp only[e9] at h;injection h with h;subst h;exact iH.refl _
 |.fz d aR,σ,o,hc,h=>by simp only[e9] at h;split at h;rename_i σ1 e;injection h with h;subst h;exact iH.iv hc e;cases h
 |.tH ps aR,σ,o,hc,h=>by simp only[e9] at h;split at h;rename_i k σ1 e;(cases hp:xA ps k with|true=>rw[hp] at h;injection h with h;subst h;exact iH.n7 hc e|false=>rw[hp] at h;cases h);cases h
 |.seq a b,σ,o,hc,h=>by simp only[wA,AN] at hc;simp only[e9] at h;cases e:e9 T a σ with|none=>rw[e] at h;cases h|some g=>have f:=Gs a hc.1 e;rw[e] at h;cases g with|gT σ1=>exact f.trans (Gs b hc.2 h)|ext i σ1=>injection h with h;subst h;exact f|ret σ1=>injection h with h;subst h;exact f
 |.cond c a b,σ,o,hc,h=>by simp only[wA,AN] at hc;simp only[e9] at h;split at h;split at h;exact Gs a hc.1 h;exact Gs b hc.2 h;cases h
 |.block id c,σ,o,hc,h=>by simp only[wA] at hc;simp only[e9] at h;cases e:e9 T c σ with|none=>rw[e] at h;cases h|some g=>have f:=Gs c hc e;rw[e] at h;cases g with|gT σ1=>injection h with h;subst h;exact f|ret σ1=>injection h with h;subst h;exact f|ext i σ1=>simp only at h;split at h<;>(injection h with h;subst h;exact f)
 |.join ..,_,_,hc,_=>by simp[wA] at hc
 |.loop ..,_,_,hc,_=>by simp[wA] at hc
def St.JR (σ:St) (ms:List bO):Option (Nat×Nat):=
 match σ.su ms with
 |some [.one (.sl n sz lo len)]=>if n=aY then match σ.h aY with
  |some (.row _ _ rs (_::_))=>if sz=rs then some (lo,len) else none
  |_=>none
  else none
 |_=>none
def RJ (T:bz) (mc:mH) (aC:List bO) (sig:df) (ds:List Dv):Option (Nat×Nat):=
 match fx sig (ds.map (·.2)) with
 |[_]=>match e9 T mc (r5 sig ds) with
  |some (.gT σ)=>σ.JR aC
  |some (.ret σ)=>σ.JR aC
  |_=>none
 |_=>none
section
variable {B N:Nat} {E:Ex} {w0 w w':World} {G G':Gh} {h h':Nat->Option aV} {used:Nat->Bool} {P:Program} {T:bz} {a:Act} {σ σ':St} {Q:Exit->Act->World->Prop}
theorem aoY (sig:df) (ds:List Dv):(r5 sig ds).h aY=((fx sig (ds.map (·.2)))[aY - aY]?).bind qj:=by have a:∀n,aY<=n->(r5 sig ds).h n=((fx sig (ds.map (·.2)))[n - aY]?).bind qj:=fun n hn=>ai hn;exact a aY (OF aY)
theorem aoZ (sig:df) (ds:List Dv):(r5 sig ds).used aY=true:=by have a:∀n,aY<=n->(r5 sig ds).used n=true:=fun n hn=>zar hn;exact a aY (OF aY)
theorem alO (x:Mode×PC):(wX [x]).qg aY=some (sk x.2):=by
 have a:∀n,aY<=n->n - aY=0->(wX [x]).qg n=some (sk x.2):=fun n hn b=>by
  show(if aY<=n then([x][n - aY]?).map _ else none)=_
  rw[ai hn,b];rfl
 exact a aY (OF aY) (zaZ aY)
theorem aw4 (hT:pQ P T) (hm:P.follows .mixedOrders=true) {f:FuncId} {fn:Func} {c:Code} {u:mH} {ms:List bO} {sig:df} {M:List Dv->Option (Nat×Nat)} (hf:P.funcs[f]? =some fn) (hb:fn.body=some c)
  (hc:lF P fn.ntmps c u=true) (hr:pT P fn.results.toList ms=true) (Qk:wA u=true) (hM:∀ds lo len,M ds=some (lo,len)->ds.length<=fn.ntmps/\RJ T u ms sig ds=some (lo,len)):Hk P f sig M:=by
 intro ds lo len lL w vals pas j;obtain⟨hN,k⟩:=hM ds lo len lL;refine calls_of_wp hf hb ?_;have r0:=R.Nm (N:=fn.ntmps) j hN;have iN:∀p∈pas,∀pc∈p.ps,Good w pc:=by
  intro p z pc bZ;obtain⟨i,A,rfl⟩:=zbq z;have hd:ds[i]? =some (ds[i]'(by rw[<-j.l2];exact A)):=co _;have B:vals[i]? =some (vals[i]'(by rw[j.l1,<-j.l2];exact A)):=co _;exact(j.at_ i _ _ _ hd B (co A)).2.1 pc bZ
 have W:∀x∈fx sig (pas.map (·.ps)),Good w x.2:=by
  intro x hx;obtain⟨l,hl,tc⟩:=LR hx;obtain⟨p,z,rfl⟩:=zbh.1 hl;exact iN p z _ tc
 have Mr:ds.map (·.2)=(pas.map (·.ps)).map fun l=>l.map PC.er:=by
  apply IS;intro i;simp only[zac];cases hd:ds[i]? with
  |none=>
   have:ds.length<=i:=za4.1 hd;rw[GB (by rw[j.l2];exact this)];rfl
  |some d=>
   have A:=(BY.1 hd).1;have B:vals[i]? =some (vals[i]'(by rw[j.l1];exact A)):=co _;have z:pas[i]? =some (pas[i]'(by rw[j.l2];exact A)):=co _;have:=(j.at_ i d _ _ hd B z).1;rw[z];simp only[IN];rw[this]
 have Z:(r5 sig ds).h aY=((fx sig (ds.map (·.2)))[aY - aY]?).bind qj:=aoY sig ds;have H:(r5 sig ds).used aY=true:=aoZ sig ds;unfold RJ at k;rw[Mr,HX] at k Z;generalize lM:fx sig (pas.map (·.ps))=fl at k r0 W Z;have K:=j.ok;rw[lM] at K;split at k
 case h_2=>cases k
 rename_i y hy;obtain⟨x,rfl⟩:∃x,fl=[x]:=by
  match fl,hy with
  |[x],_=>exact⟨x,rfl⟩
 obtain⟨m,pc⟩:=x;obtain⟨sz,L,cap,px,D,fZ,yw,w7⟩:=(K (m,pc) (by simp)).f6;dsimp only at D w7;subst D;have Q:(r5 sig ds).h aY=some (.row false m sz (px.map fun e=>e.map PC.er)):=by
  rw[Z,zaZ];simp[qj,PC.fk]
 have jg:∀{σ:St} {a:Act} {w':World} {G:Gh},σ.h aY=(r5 sig ds).h aY->σ.JR ms=some (lo,len)->R w.heap.size (wX [(m,.list sz L cap px)]) w fn.ntmps σ a w' G->a.defers=[]/\∃v,(results fn a.tmps).run P w'=.ok v w'/\
   ∃(U:Mode) (E t:Nat) (C:Option Addr) (xs:List (List PC)) (v':Value),[(m,PC.list sz L cap px)]=[(U,.list E C t xs)]/\(Ending.returned v)=.returned v'/\xs≠[]/\
   (∃(b o:Nat) (I:Option Addr),C=some (ad b o)/\v'=.slice I len (t - lo)/\lo+len<=t/\((lo<t\/lo=0)->I=some (ad b (o+lo*E))))/\
   Fr w.heap.size (C8 [(U,.list E C t xs)]) w w'/\∃q:PC,q.er=(PC.list E C t xs).er/\vl w' U (.list E C t xs) q:=by
  intro σ a w' G s hx r;rw[Q] at s;unfold St.JR at hx;split at hx
  ·rename_i n F An xt e1;split at hx
   ·rename_i hn;subst hn;rw[s] at hx;split at hx
    ·rename_i gr m0 wE e0 es0 X;split at hx
     case isFalse=>cases hx
     rename_i O;injection hx with hx;injection hx with nk fT;subst nk fT;injection X with X;injection X with _ _ sZ iO;have S:px≠[]:=by rintro rfl;cases iO
     have iE:=W (m,.list sz L cap px) (by simp);rcases iE.cases with J|⟨_,j9,b,o,rfl⟩
     ·exact absurd J S
     have e2:Au σ 0 ([(m,PC.list sz (some (ad b o)) cap px)].map fun x=>(x.1,x.2.er))=some [.list sz (px.map fun e=>e.map PC.er)]:=by
      simp only[If,zbi,Au,Gi,PC.fk,zbj,s];rw[ai ⟨trivial,trivial,trivial,w7,trivial⟩]
     obtain⟨us,u1,u2,_,u3⟩:=JX r hr e1;obtain⟨v,rfl⟩:∃v,us=[v]:=by
      match us,u2 with
      |[v],_=>exact⟨v,rfl⟩
     have B:=(u3 0 _ v rfl rfl).il (by simp);have kg:jD (G.g aY) F An xt v:=B.1 (by rw[s];simp);have V:F=sz:=O.trans sZ.symm;have sY:=alO (m,PC.list sz (some (ad b o)) cap px);obtain⟨p1,Y,p3,p4,p6,_⟩:=r.qg _ _ _ sY s;rw[Av S] at p1 Y p3 p4;dsimp only at p1 Y p3 p4;obtain⟨q,oq,k1,k2,k3,_⟩:=Lg K W r e2 (i:=0) rfl;refine⟨r.defers,_,JY fn a.tmps u1,m,sz,cap,some (ad b o),px,v,rfl,rfl,S,?_,⟨r.fr.os,r.fr.tape,r.fr.output,r.fr.size,r.fr.block,r.fr.mY⟩,q,?_,k3⟩
     ·rcases kg with⟨J,_⟩|⟨_,I,h1,h2,h3⟩
      ·rw[p1] at J;cases J
      ·rw[Y,p3,p4] at*
       subst V;exact⟨b,o,I,rfl,h1,h2,h3⟩
     ·rw[k2];simp only[List.getElem?_cons_zero,zce] at k1;rw[<-k1,PC.fk]
    ·cases hx
   ·cases hx
  ·cases hx
 split at k
 ·rename_i σ e;have s:=(Gs u Qk e).h aY H;exact nI hT hm u hc e r0 fun a w' G r=>jg s k r
 ·rename_i σ e;have s:=(Gs u Qk e).h aY H;exact nI hT hm u hc e r0 fun a w' G r=>jg s k r
 ·cases k
end
def St.win (σ:St) (i lo len:Nat):St:=σ.put (some i) (.one (.sl aY 1 lo len))
def RM (T:bz) (mc:mH) (aC:List bO) (i lo len:Nat) (ds:List Dv):Option (List Dv×List C):=
 match e9 T mc ((r5 (pi i) ds).win i lo len) with
 |some (.gT σ)=>σ.Az aC (fx (pi i) (ds.map (·.2)))
 |some (.ret σ)=>σ.Az aC (fx (pi i) (ds.map (·.2)))
 |_=>none
theorem acR {α:Type}:∀{i:Nat} {xss:List (List α)} {x:α},xss[i]? =some [x]->fx (pi i) xss=[(.bi,x)]
 |0,[],_,h=>by cases h
 |0,xs::xss,x,h=>by injection h with h;subst h;show hZ [some .bi] [x]++fx [] xss=_;rfl
 |i+1,[],_,h=>by cases h
 |i+1,xs::xss,x,h=>by show hZ [] xs++fx (pi i) xss=_;rw[acR (i:=i) (xss:=xss) (x:=x) h];rfl
section
variable {B N:Nat} {E:Ex} {w0 w w':World} {G G':Gh} {h h':Nat->Option aV} {used:Nat->Bool} {P:Program} {T:bz} {a:Act} {σ σ':St} {Q:Exit->Act->World->Prop}
theorem aj2 {vals:List Value} {v:Value} {i N:Nat} (a:i<vals.length): ({tmps:=(vals.set i v).toArray++zbM (N - (vals.set i v).toArray.size) undef,defers:=[]}:Act)=({tmps:=vals.toArray++zbM (N - vals.toArray.size) undef,defers:=[]}:Act).put (some i) v:=by simp only[Act.put];congr 1;apply Array.ext';simp[List.set_append,a]
theorem axd (hT:pQ P T) (hm:P.follows .mixedOrders=true) {f:FuncId} {fn:Func} {c:Code} {S:mH} {ms:List bO} {i:Nat} {M:List Dv->Option (List Dv×List C)} (hf:P.funcs[f]? =some fn) (hb:fn.body=some c)
  (hc:lF P fn.ntmps c S=true) (hr:pT P fn.results.toList ms=true)
  (hM:∀lo len ds z B,M (dI lo::dI (lo+len)::ds)=some (z,B)->ds.length<=fn.ntmps/\RM T S ms i lo len ds=some (z,B)):ED P f i M:=by
 intro lo len ds z B ys lL WJ w vals pas s b0 o0 EG n0 a' Xt cQ jU Ws;obtain⟨hN,u⟩:=hM lo len ds z B lL;refine calls_of_wp hf hb ?_;have kK:i<ds.length:=(BY.1 WJ).1;have ME:i<vals.length:=by rw[s.l1];exact kK
 have iN:∀p∈pas,∀pc∈p.ps,Good w pc:=by
  intro p F pc bZ;obtain⟨i,t,rfl⟩:=zbq F;have hd:ds[i]? =some (ds[i]'(by rw[<-s.l2];exact t)):=co _;have X:vals[i]? =some (vals[i]'(by rw[s.l1,<-s.l2];exact t)):=co _;exact(s.at_ i _ _ _ hd X (co t)).2.1 pc bZ
 have Z:pas[i]? =some (pas[i]'(by rw[s.l2];exact kK)):=co _;obtain⟨D,y,j⟩:=s.at_ i _ _ _ WJ Xt Z;generalize pas[i]'(by rw[s.l2];exact kK)=p at Z D y j;obtain⟨pk,I,pb,po⟩:=p;injection D with O L;simp only at O L y j;subst O;simp only at j;obtain⟨pc,rfl⟩:∃pc,I=[pc]:=by
  have hl:=congrArg zbr j;rw[zah] at hl;match I,hl with
  |[pc],_=>exact⟨pc,rfl⟩
 injection j with j _;injection L with L _;obtain⟨vf,Hm,E,A,rfl⟩:∃vf Hm E A,pc=.list vf Hm E A:=by
  cases pc with
  |int k n=>cases j
  |bool b=>cases j
  |list sz a cap xs=>exact⟨_,_,_,_,rfl⟩
 rw[PC.fk] at L;injection L with z1 z2;subst z1;rw[PC.val] at j;injection j with z3 z4 z5;subst z3 z4 z5;have iE:=y _ (zbx.2 rfl);have bm:A≠[]:=by rintro rfl;simp at cQ
 have Mv:fx (pi i) (pas.map (·.ps))=[(.bi,PC.list 1 (some (ad b0 o0)) E A)]:=acR (by rw[zac,Z];rfl);have j9:A.length<=E:=by
  rcases iE.cases with h0|⟨_,h1,_⟩
  ·exact absurd h0 bm
  ·exact h1
 have r1:=R.Nm (N:=fn.ntmps) s hN;have U:=r1.put (d:=some i) (x:=.one (.sl aY 1 lo len)) (v:=.slice a' len (E - lo)) (RA.iB rfl (by
   intro _;have J:(qx w (fx (pi i) (pas.map (·.ps)))).g aY=⟨false,b0,o0,E,A,none⟩:=by
    rw[Mv];simp only[qx,zaZ];exact Av bm
   show jD _ 1 lo len _;rw[J];exact .inr ⟨rfl,a',rfl,by simp only;omega,Ws⟩)) (fun m hm=>zar (Nat.le_of_eq (show aY=m from(show m=aY from hm).symm))) (fun n hn=>by
   injection hn with hn;subst hn;omega)
 rw[<-aj2 ME] at U;have J:∀x∈fx (pi i) (pas.map (·.ps)),Good w x.2:=by
  intro x hx;obtain⟨l,hl,tc⟩:=LR hx;obtain⟨p,F,rfl⟩:=zbh.1 hl;exact iN p F _ tc
 have Mr:ds.map (·.2)=(pas.map (·.ps)).map fun l=>l.map PC.er:=by
  apply IS;intro i;simp only[zac];cases hd:ds[i]? with
  |none=>
   have:ds.length<=i:=za4.1 hd;rw[GB (by rw[s.l2];exact this)];rfl
  |some d=>
   have t:=(BY.1 hd).1;have X:vals[i]? =some (vals[i]'(by rw[s.l1];exact t)):=co _;have F:pas[i]? =some (pas[i]'(by rw[s.l2];exact t)):=co _;have:=(s.at_ i d _ _ hd X F).1;rw[F];simp only[IN];rw[this]
 unfold RM at u;rw[Mr,HX] at u;unfold OP;generalize lM:fx (pi i) (pas.map (·.ps))=fl at u U J;have V:=s.ok;rw[lM] at V;have jg:∀{σ:St} {a:Act} {w':World} {G:Gh},σ.Az ms (fl.map fun x=>(x.1,x.2.er))=some (z,B)->R w.heap.size (wX fl) w fn.ntmps σ a w' G->a.defers=[]/\∃v,(results fn a.tmps).run P w'=.ok v w'/\
   ∃H:List (K×List PC),H.map (fun p=>(p.1,p.2.map PC.er))=z/\(Ending.returned v)=.returned (yW H)/\(∀p∈H,p.1≠ .ptr/\(p.1=.one->p.2.length=1))/\
   xW w' w.heap.size (H.flatMap (·.2))/\Fr w.heap.size (C8 fl) w w'/\
   ∃qs:List PC,qs.map PC.er=B/\qs.length=fl.length/\∀(i:Nat) (x:Mode×PC) (q:PC),fl[i]? =some x->qs[i]? =some q->vl w' x.1 x.2 q:=by
  intro σ a w' G hx r;unfold St.Az at hx;split at hx
  ·rename_i pf Y2 e1 e2;injection hx with hx;injection hx with nk fT;subst nk fT;have hE:∀b,(wX fl) b->∃n W m sz xs,aY<=n/\σ.h n=some (.row W m sz xs)/\m≠ .bh/\ra G n b/\(m=.bi->¬bK b (G.g n).px):=by
    rintro b ⟨x,BL,Dq⟩;obtain⟨i,t⟩:=List.getElem?_of_mem BL;obtain⟨q,o,_,_,_,W,sz,xs,D,y,j,k4⟩:=Lg V J r e2 t;exact⟨aY+i,W,x.1,sz,xs,Nat.le_add_right _ _,D,k4,y b Dq,fun hm=>j hm b⟩
   obtain⟨H,p1,p2,p3,p4⟩:=Zp (r.oB hE) hr e1;obtain⟨ol,_⟩:=Q6 e2;have Y:∀i:Fin fl.length,∃q,Y2[i.1]? =some (PC.er q)/\vl w' (fl[i.1]).1 (fl[i.1]).2 q:=by
    intro i;obtain⟨q,o,D,y,j,_⟩:=Lg V J r e2 (co i.2);exact⟨q,by rw[D,y],j⟩
   refine⟨r.defers,_,p2,H,p1,rfl,p3,p4,⟨r.fr.os,r.fr.tape,r.fr.output,r.fr.size,r.fr.block,r.fr.mY⟩,List.ofFn fun i=>Classical.choose (Y i),?_,by simp,fun i x q t Q=>?_⟩
   ·apply IS;intro i;simp only[zac];by_cases t:i<fl.length
    ·rw[zby,dif_pos t];exact(zbk (Y ⟨i,t⟩)).1.symm
    ·rw[GB (by simp;omega),GB (by rw[ol];simp;omega)];rfl
   ·obtain⟨hl,e⟩:=BY.1 t;rw[zby,dif_pos hl] at Q;injection Q with Q;subst Q;subst e;exact(zbk (Y ⟨i,hl⟩)).2
  ·cases hx
 split at u
 ·rename_i σ e;exact nI hT hm S hc e U fun a w' G r=>jg u r
 ·rename_i σ e;exact nI hT hm S hc e U fun a w' G r=>jg u r
 ·cases u
end
def Oa (k:K) (ts:List Ty) (x:Ty.DL ts):SV:=
 match k with
 |.one=>match Ty.cells ts x with
  |[c]=>.one c
  |_=>.one .cj
 |.agg=>match zag 50 ts.length with
  |true=>.arr ts x
  |false=>.agg (Ty.cells ts x)
 |.ptr=>.one (.ez ts x 0)
theorem ahE (k:K) (ts:List Ty) (x:Ty.DL ts):(Oa k ts x).er=EE (k,Ty.aQ ts x):=by
 cases k with
 |one=>
  match ts,x with
  |[],x=>rfl
  |[t],x=>rfl
  |t::u::[],x=>rfl
  |t::u::v::ts,x=>rfl
 |agg=>
  grind [Oa,SV.er,EE,Ty.pq]
 |ptr=>rfl
def Oi:Nat->(as:bu)->cv as.cu->(Nat->SV)
 |_,[],_=>fun _=>.one .cj
 |k,[a],x=>aN (fun _=>.one .cj) k (Oa a.1 a.2 x)
 |k,a::b::as,x=>aN (Oi (k+1) (b::as) x.2) k (Oa a.1 a.2 x.1)
theorem aiq:∀(k:Nat) (as:bu) (x:cv as.cu),wW (Oi k as x)=z8 k (eG as x)
 |k,[],x=>rfl
 |k,[a],x=>by have e:(Oa a.1 a.2 x).er=EE (a.1,Ty.aQ a.2 x):=ahE a.1 a.2 x;simp only[Oi,eG,z8,Bo];rw[e];rfl
 |k,a::b::as,x=>by have ih:=aiq (k+1) (b::as) x.2;simp_all [Oi,eG,Bo,ahE,z8]
def Sh (as:bu) (x:cv as.cu):ak:={env:=Oi 0 as x,h:=fun _=>none,used:=fun n=>zag aY n}
theorem ais (as:bu) (x:cv as.cu):(Sh as x).er=IV (eG as x):=by simp only[Sh,ak.er,IV,aiq];rfl
section
variable {ρ:Type}
def y6 (σ:ak):List bO->(List SV->Option ρ)->Option ρ
 |[],k=>k []
 |.tmp t::ms,k=>y6 σ ms fun vs=>k (σ.env t::vs)
 |.cell t sz ag::ms,k=>match σ.env t with
  |.one p=>Sk σ.h p sz fun cs=>y6 σ ms fun vs=>k (Kw ag cs::vs)
  |_=>none
theorem Ed {σ:ak}:∀{ms:List bO} {k:List SV->Option ρ} {r:ρ},y6 σ ms k=some r->∃vs,σ.er.su ms=some (vs.map SV.er)/\k vs=some r
 |[],k,r,h=>⟨[],rfl,h⟩
 |.tmp t::ms,k,r,h=>by simp only[y6] at h;obtain⟨vs,b,a⟩:=Ed h;exact⟨_,by simp only[St.su,b];rfl,a⟩
 |.cell t sz ag::ms,k,r,h=>by simp only[y6] at h;split at h;rename_i p c;obtain⟨cs,b,a⟩:=aix h;obtain⟨vs,h3,h4⟩:=Ed a;have du:σ.er.env t=.one p.er:=(by show(σ.env t).er=_;rw[c];rfl);have lI:loadAt σ.er.h p.er sz=some (cs.map SC.er):=b;grind [St.su,OB];cases h
def aae (h:Nat->Option SB) (c:SC) (k:(t:Ty)->t.D->List Nat->Option ρ):Option ρ:=
 match c with
 |.v t x=>fH t.gI (k t x [])
 |.nil ts=>match ts with
  |[]=>none
  |t::us=>k (.list (t::us)) ([]:List (Ty.DL (t::us))) []
 |.sl n sz lo len=>match h n with
  |some (.row true m ts xs)=>dq ts.length sz (fH m.own (dq lo 0 ((dO xs len).ae fun ys=>k (.list ts) ys [n])))
  |_=>none
 |_=>none
theorem awt {h:Nat->Option SB} {c:SC} {k:(t:Ty)->t.D->List Nat->Option ρ} {r:ρ} (hx:aae h c k=some r): ∃(t:Ty) (x:t.D) (ns:List Nat),mV (eM h) c.er=some (t.er x,ns)/\k t x ns=some r:=by unfold aae at hx;split at hx;rename_i t x;have f:=(cR hx).1;replace hx:=(cR hx).2;exact⟨t,x,[],by simp only[SC.er,mV,Ty.Ck,f,if_true],hx⟩;grind [SC.er,mV,Ty.er];rename_i n sz lo len;split at hx;rename_i m ts xs hn;have a:=(bn hx).1;replace hx:=(bn hx).2;subst a;have hm:=(cR hx).1;replace hx:=(cR hx).2;have a:=(bn hx).1;replace hx:=(bn hx).2;subst a;rw[fC] at hx;obtain⟨ys,d,hx⟩:=hx;obtain⟨b,e⟩:=aaB d;refine⟨.list ts,ys,[n],?_,hx⟩;have g:m≠ .bh:=(by rintro rfl;cases hm);simp only[SC.er,mV,eM,hn,IN,SB.er,zah,b,e,ne_eq,g,not_false_eq_true,and_self,if_true,Ty.er];cases hx;cases hx
def Sw (h:Nat->Option SB):List SC->(List TD->List Nat->Option ρ)->Option ρ
 |[],k=>k [] []
 |c::cs,k=>aae h c fun t x ns=>Sw h cs fun l qK=>k (⟨t,x⟩::l) (ns++qK)
theorem aiT {h:Nat->Option SB}:∀{cs:List SC} {k:List TD->List Nat->Option ρ} {r:ρ},Sw h cs k=some r-> ∃l ns,xE (eM h) (cs.map SC.er)=some (eK l,ns)/\k l ns=some r
 |[],k,r,hx=>⟨[],[],rfl,hx⟩
 |c::cs,k,r,hx=>by simp only[Sw] at hx;obtain⟨t,x,ns,h1,a⟩:=awt hx;obtain⟨l,qK,h3,h4⟩:=aiT a;grind [xE,eK]
def kOf:Bool->K
 |true=>.agg
 |false=>.one
def GF (h:Nat->Option SB):List SV->(List cW->List Nat->Option ρ)->Option ρ
 |[],k=>k [] []
 |v::vs,k=>match v.cells? with
  |some (ag,cs)=>Sw h cs fun l ns=>GF h vs fun ds qK=>k ((kOf ag,l)::ds) (ns++qK)
  |none=>none
theorem Ot {h:Nat->Option SB}:∀{vs:List SV} {k:List cW->List Nat->Option ρ} {r:ρ},GF h vs k=some r-> ∃ds ns,rE (eM h) (vs.map SV.er)=some (ds.map cW.er,ns)/\k ds ns=some r
 |[],k,r,hx=>⟨[],[],rfl,hx⟩
 |v::vs,k,r,hx=>by simp only[GF] at hx;split at hx;rename_i ag cs a;obtain⟨l,ns,d,b⟩:=aiT hx;obtain⟨ds,qK,e,c⟩:=Ot b;refine⟨_,_,?_,c⟩;simp only[If,rE,SV.pq a,d,e];cases ag<;>rfl;cases hx
end
def Gc:List Nat->Bool
 |[]=>true
 |n::l=> !(l.contains n)&&Gc l
theorem NM:∀{l:List Nat},Gc l=true->l.Nodup
 |[],_=>List.nodup_nil
 |n::l,h=>by simp only[Gc,AN,zbB] at h;rw[List.nodup_cons];refine⟨fun hm=>?_,NM h.2⟩;simp_all
def Ou (σ:ak) (ms:List bO) (aC:bu):Option (cv aC.cu):=
 y6 σ ms fun vs=>GF σ.h vs fun ds ns=>fH (Gc ns) (rz aC ds)
theorem aaf {σ:ak} {ms:List bO} {aC:bu} {y:cv aC.cu} (h:Ou σ ms aC=some y):σ.er.xD ms=some (eG aC y):=by unfold Ou at h;obtain⟨vs,e,b⟩:=Ed h;obtain⟨ds,ns,f,a⟩:=Ot b;have c:=(cR a).1;replace h6:=(cR a).2;have d:rE σ.er.h (vs.map SV.er)=some (ds.map cW.er,ns):=f;simp only[St.xD,e,d,ai (NM c),wv h6]
def Sv (σ:ak) (ms:List bO) (aC:bu):Option (cv aC.cu):=
 match ms with
 |.cell t sz true::YL=>match σ.env t with
  |.one (.ptr n kk z off)=>match σ.h n with
   |some (.kt us x)=>dq kk 0 (dq off 0 (dq sz us.length (fH (Ty.io us) (y6 σ YL fun vs=>GF σ.h vs fun ds ns=>fH (Gc ns) (YI aC us x ds)))))
   |_=>Ou σ ms aC
  |_=>Ou σ ms aC
 |_=>Ou σ ms aC
theorem ahp (h:Nat->Option aV):∀{l:List C},Am.io l=true->xE h (l.map .c)=some (l,[])
 |[],_=>rfl
 |c::l,hs=>by simp only[Am.io,zaS,AN] at hs;have ih:=ahp h (l:=l) hs.2;simp_all [If,xE,mV,if_true,zbN]
theorem aiS {σ:ak} {ms:List bO} {aC:bu} {y:cv aC.cu} (h:Sv σ ms aC=some y):σ.er.xD ms=some (eG aC y):=by unfold Sv at h;split at h;rename_i t sz j;split at h;rename_i n kk z off e;split at h;rename_i us x hn;have a:=(bn h).1;replace h:=(bn h).2;subst a;have a:=(bn h).1;replace h:=(bn h).2;subst a;have a:=(bn h).1;replace h:=(bn h).2;subst a;have f:=(cR h).1;replace h:=(cR h).2;obtain⟨vs,l,o⟩:=Ed h;obtain⟨ds,ns,g,b⟩:=Ot o;have d:=(cR b).1;replace h6:=(cR b).2;have k:rE σ.er.h (vs.map SV.er)=some (ds.map cW.er,ns):=g;have i:σ.er.env t=.one (.ptr n 0 z 0):=(by show(σ.env t).er=_;rw[e];rfl);have m:sub ((Ty.aQ us x).map ao.c) 0 us.length=some ((Ty.aQ us x).map ao.c):=(by unfold sub;rw[ai (by simp[Ty.Bp]),List.drop_zero,zbd (by simp[Ty.Bp])]);have hl:loadAt σ.er.h (.ptr n 0 z 0) us.length=some ((Ty.aQ us x).map .c):=(by simp only[loadAt,EZ hn,SB.er,if_true,m]);have hr:σ.er.su (.cell t us.length true::j)=some (.agg ((Ty.aQ us x).map .c)::vs.map SV.er):=(by simp only[St.su,i,hl,l];rfl);have hd:rE σ.er.h (.agg ((Ty.aQ us x).map .c)::vs.map SV.er)=some ((K.agg,Ty.aQ us x)::ds.map cW.er,ns):=(by simp only[rE,aw.cells?,ahp σ.er.h (show Am.io (Ty.aQ us x)=true by rw[Ty.JZ];exact f),k,if_true,zbN]);simp only[St.xD,hr,hd,ai (NM d),aqr h6];exact aaf h;exact aaf h;exact aaf h
def Zw (N:Nat) (T:List aF) (sc:bR) (ms:List bO) (args aC:bu) (x:cv args.cu):Option (cv aC.cu):=
 pg N T sc (Sh args x) (fun σ=>Sv σ ms aC) (fun _ _=>none) (fun σ=>Sv σ ms aC)
theorem auj {T:List aF} {sc:bR} {ms:List bO} {args aC:bu} {x:cv args.cu} {y:cv aC.cu} (h:Zw bW T sc ms args aC x=some y): RF (dG T) sc.er ms (eG args x)=some (eG aC y):=by obtain⟨o,b,a⟩:=u0 sc h;rw[ais] at b;unfold RF;rw[b];cases o with|gT τ=>obtain⟨c,rfl,a⟩:=a;exact aiS a|ret τ=>obtain⟨c,rfl,a⟩:=a;exact aiS a|ext i τ=>obtain⟨c,rfl,a⟩:=a;cases a
theorem C6:∀(as:bu) (x:cv as.cu),(eG as x).length=as.length
 |[],_=>rfl
 |[a],_=>rfl
 |a::b::as,x=>by simp only[eG,zaj,C6 (b::as) x.2]
def wC:Nat->List (Option Mode)->List TD->List SC
 |c,some _::fs,⟨.list ts,xs⟩::l=>.sl (aY+c) ts.length 0 (aa (α:=Ty.DL ts) xs)::wC (c+1) fs l
 |c,some _::fs,⟨.int _,_⟩::l=>.cj::wC (c+1) fs l
 |c,some _::fs,⟨.bool,_⟩::l=>.cj::wC (c+1) fs l
 |c,none::fs,x::l=>.v x.1 x.2::wC c fs l
 |c,[],l=>l.map fun x=>.v x.1 x.2
 |c,_::_,[]=>[]
theorem N8:∀(c:Nat) (a:List (Option Mode)) (l:List TD),(wC c a l).map SC.er=mg c a (eK l)
 |c,some m::a,⟨.list ts,xs⟩::l=>by simp only[wC,eK,If,Ty.er,mg,SC.er];have:=N8 (c+1) a l;simp only[eK] at this;rw[this];exact congrArg (fun q=>ao.sl (aY+c) ts.length 0 q::_) (zah (Ty.aQ ts)).symm
 |c,some m::a,⟨.int k,x⟩::l=>by simp only[wC,eK,If,Ty.er,mg,SC.er];exact congrArg _ (N8 (c+1) a l)
 |c,some m::a,⟨.bool,x⟩::l=>by simp only[wC,eK,If,Ty.er,mg,SC.er];exact congrArg _ (N8 (c+1) a l)
 |c,none::a,⟨t,x⟩::l=>by simp only[wC,eK,If,mg,SC.er];exact congrArg _ (N8 c a l)
 |c,[],l=>by cases l<;>simp[wC,eK,mg,SC.er]
 |c,some m::a,[]=>rfl
 |c,none::a,[]=>rfl
def ZC (c:Nat) (s:List (Option Mode)) (ts:List Ty) (x:Ty.DL ts):SC:=
 match s with
 |[]=>.ez ts x 0
 |_::_=>match(Ty.jF ts x).getLast? with
  |some ⟨.list us,l⟩=>.dE ts x 0 (ts.length - 1) (aY+c) us.length (aa l)
  |_=>.cj
theorem auA (c:Nat) (s:List (Option Mode)) (ts:List Ty) (x:Ty.DL ts):(ZC c s ts x).er=Lj c s (Ty.aQ ts x):=by cases s with|nil=>rfl|cons f fs=>have b:Ty.aQ ts x=(Ty.jF ts x).map fun y=>y.1.er y.2:=(Ty.rK ts x).symm;have a:(Ty.aQ ts x).length=ts.length:=Ty.Bp ts x;simp only[ZC,Lj];rw[a,b,List.getLast?_map];cases hl:(Ty.jF ts x).getLast? with|none=>rfl|some y=>obtain⟨t,l⟩:=y;cases t with|list us=>grind [Ty.er,SC.er,aa]|int k=>rfl|bool=>rfl
def N9 (c:Nat) (s:List (Option Mode)) (d:K×List Ty) (x:Ty.DL d.2):SV:=
 match d.1 with
 |.one=>match wC c s (Ty.jF d.2 x) with
  |[y]=>.one y
  |_=>.one .cj
 |.agg=>.agg (wC c s (Ty.jF d.2 x))
 |.ptr=>.one (ZC c s d.2 x)
theorem ahD (c:Nat) (s:List (Option Mode)) (d:K×List Ty) (x:Ty.DL d.2):(N9 c s d x).er=vq c s (d.1,Ty.aQ d.2 x):=by
 obtain⟨k,ts⟩:=d;have h:=N8 c s (Ty.jF ts x);rw[Ty.rK] at h;cases k with
 |one=>
  simp only[N9,vq,<-h];generalize wC c s (Ty.jF ts x)=l;match l with
  |[]=>rfl
  |[y]=>rfl
  |_::_::_=>rfl
 |agg=>simp only[N9,vq,<-h,SV.er]
 |ptr=>exact congrArg aw.one (auA c s ts x)
def Oj:Nat->Nat->df->(as:bu)->cv as.cu->(Nat->SV)
 |_,_,_,[],_=>fun _=>.one .cj
 |k,c,sig,[a],x=>aN (fun _=>.one .cj) k (N9 c sig.hd a x)
 |k,c,sig,a::b::as,x=>aN (Oj (k+1) (c+(hZ sig.hd (Ty.jF a.2 x.1)).length) sig.tl (b::as) x.2) k (N9 c sig.hd a x.1)
theorem VL {α β:Type}:∀(s:List (Option Mode)) (l:List α) (a:List β),l.length=a.length->(hZ s l).length=(hZ s a).length
 |some m::fs,x::xs,y::ys,h=>by simp only[hZ,zaj,VL fs xs ys (by simpa using h)]
 |none::fs,x::xs,y::ys,h=>by simp only[hZ];exact VL fs xs ys (by simpa using h)
 |[],l,a,h=>by cases l<;>cases a<;>rfl
 |some m::fs,[],[],h=>rfl
 |none::fs,[],[],h=>rfl
 |_::_,[],_::_,h=>by simp at h
 |_::_,_::_,[],h=>by simp at h
theorem Vx (ts:List Ty) (x:Ty.DL ts):(Ty.jF ts x).length=(Ty.aQ ts x).length:=by rw[<-Ty.rK,eK,zah]
theorem ae6 (k c:Nat) (sig:df) (d:Dv) (ds:List Dv):rn k c sig (d::ds)=aN (rn (k+1) (c+(hZ sig.hd d.2).length) sig.tl ds) k (vq c sig.hd d):=by cases sig with|nil=>have:(hZ (df.hd []) d.2).length=0:=rfl;simp_all [rn,zbj,df.tl,df.hd]|cons s sig=>rfl
theorem aio:∀(k c:Nat) (sig:df) (as:bu) (x:cv as.cu),wW (Oj k c sig as x)=rn k c sig (eG as x)
 |k,c,sig,[],x=>by cases sig<;>rfl
 |k,c,sig,[a],x=>by simp only[Oj,eG,Bo];have h:=ahD c sig.hd a x;rw[ae6];have e:rn (k+1) (c+(hZ sig.hd (Ty.aQ a.2 x)).length) sig.tl []=C5:=(by simp only[rn]);rw[e];exact congrArg (fun v=>aN (wW fun _=>SV.one SC.cj) k v) h
 |k,c,sig,a::b::as,x=>by have d:=aio (k+1) (c+(hZ sig.hd (Ty.jF a.2 x.1)).length) sig.tl (b::as) x.2;simp only[Oj,eG,Bo,ahD,d,ae6 (ds:=eG (b::as) x.2)];rw[VL sig.hd (Ty.jF a.2 x.1) (Ty.aQ a.2 x.1) (Vx _ _)]
def AB (sig:df) (as:bu) (x:cv as.cu):List (Mode×TD):=fx sig ((nc as x).map (·.2))
theorem J3 (sig:df) (as:bu) (x:cv as.cu):(AB sig as x).map (fun p=>(p.1,p.2.1.er p.2.2))=fx sig ((eG as x).map (·.2)):=by unfold AB;rw[<-Bg,<-HX (fun p:TD=>p.1.er p.2)];simp only[zal];rfl
def aah:Mode×TD->Option SB
 |(m,⟨.list ts,xs⟩)=>some (.row false m ts xs)
 |_=>none
theorem aww (p:Mode×TD):(aah p).map SB.er=qj (p.1,p.2.1.er p.2.2):=by obtain⟨m,t,x⟩:=p;cases t<;>rfl
def Ko:List (Mode×TD)->Nat->Option SB
 |[],_=>none
 |p::_,0=>aah p
 |_::l,n+1=>Ko l n
theorem aiY:∀(l:List (Mode×TD)) (n:Nat),Ko l n=(l[n]?).bind aah
 |[],n=>by simp[Ko]
 |p::l,0=>by simp[Ko]
 |p::l,n+1=>by simp[Ko,aiY l n]
def ain (fl:List (Mode×TD)):Nat->Option SB:=fun n=>match zag aY n with
 |true=>Ko fl (Nat.sub n aY)
 |false=>none
def Ol (sig:df) (as:bu) (x:cv as.cu):ak:={env:=Oj 0 0 sig as x,h:=ain (AB sig as x),used:=fun n=>zag aY n}
theorem ZW (sig:df) (as:bu) (x:cv as.cu):(Ol sig as x).er=r5 sig (eG as x):=by simp only[Ol,ak.er,r5,aio];congr 1;funext n;simp only[eM,ain];cases hb:zag aY n with|true=>rw[ai (zbg hb),<-J3,aiY];simp only[zac];(cases (AB sig as x)[n - aY]? with|none=>simp|some p=>simp[aww])|false=>rw[aq (fun h=>by rw[zar h] at hb;cases hb)];rfl
def ak.oB (σ:ak):ak:={σ with h:=fun n=>match zag aY n with|true=>none|false=>σ.h n}
theorem ak.ar3 (σ:ak):σ.oB.er=σ.er.oB:=by simp only[ak.oB,ak.er,St.oB];congr 1;funext n;simp only[eM];cases hb:zag aY n with|true=>simp_all|false=>rw[aq (fun h=>by rw[zar h] at hb;cases hb)]
section
variable {ρ:Type}
def Z5 (σ:ak) (q:Nat) (p:Mode×TD) (k:TD->Option ρ):Option ρ:=
 match p with
 |(m,⟨.list ts,xs⟩)=>match σ.h (aY+q) with
  |some (.row _ m' us ys)=>fH (Mode.beq m' m) (fH (Ty.x6 us ts) (fH (aaJ m us) ((lm (aa ys) (aa (α:=Ty.DL ts) xs)).ae fun _=>k ⟨.list us,ys⟩)))
  |_=>none
 |_=>none
theorem afg (t:Ty) (x:t.D):(t.er x).xl= !t.gI:=by cases t<;>rfl
theorem aff:∀(ts:List Ty) (x:Ty.DL ts),(Ty.aQ ts x).map C.xl=ts.map fun t=> !t.gI
 |[],_=>rfl
 |[t],x=>congrArg (fun b=>[b]) (afg t x)
 |t::u::ts,x=>by have:=aff (u::ts) x.2;simp_all [If,Ty.aQ,afg]
theorem afh (ts:List Ty) (xs:List (Ty.DL ts)):(za0 (Ty.aQ ts) xs).map (fun e=>e.map C.xl)=zbU xs.length (ts.map fun t=> !t.gI):=by induction xs with|nil=>rfl|cons x xs a=>simp only[If,aff,a,zaj,List.replicate_succ]
theorem awm {σ:ak} {q:Nat} {p:Mode×TD} {k:TD->Option ρ} {r:ρ} (h:Z5 σ q p k=some r):∃o:TD,Gi σ.er q (p.1,p.2.1.er p.2.2)=some (o.1.er o.2)/\k o=some r:=by unfold Z5 at h;split at h;rename_i m ts xs;split at h;rename_i f l us ys hn;have a:=(cR h).1;replace h:=(cR h).2;have c:=(cR h).1;replace h:=(cR h).2;have g:=(cR h).1;replace h:=(cR h).2;rw[fC] at h;obtain⟨_,b,h⟩:=h;have hl:aa ys=aa (α:=Ty.DL ts) xs:=(by unfold lm at b;split at b;assumption;cases b);have a:=Mode.beq_eq a;have c:=Ty.CT c;subst a c;refine⟨_,?_,h⟩;have i:σ.er.h (aY+q)=some (.row f l us.length (za0 (Ty.aQ us) ys)):=(by simp[ak.er,eM,hn,SB.er]);have d:zbr ys=zbr (α:=Ty.DL us) xs:=hl;have j:(za0 (Ty.aQ us) ys).length=(za0 (α:=Ty.DL us) (Ty.aQ us) xs).length:=(zah _).trans (d.trans (zah (as:=(xs:List (Ty.DL us))) (Ty.aQ us)).symm);have s:(za0 (Ty.aQ us) ys).map (fun e=>e.map C.xl)=(za0 (α:=Ty.DL us) (Ty.aQ us) xs).map (fun e=>e.map C.xl):= (afh us ys).trans ((congrArg (fun n=>zbU n _) d).trans (afh us xs).symm);simp only[Gi,Ty.er,i];rw[ai ⟨trivial,trivial,j,ada _ _ _ g,s⟩];cases h;cases h
def So (σ:ak):Nat->List (Mode×TD)->(List TD->Option ρ)->Option ρ
 |_,[],k=>k []
 |q,p::l,k=>Z5 σ q p fun o=>So σ (q+1) l fun os=>k (o::os)
theorem aiF {σ:ak}:∀{l:List (Mode×TD)} {q:Nat} {k:List TD->Option ρ} {r:ρ},So σ q l k=some r->∃os,Au σ.er q (l.map fun p=>(p.1,p.2.1.er p.2.2))=some (eK os)/\k os=some r
 |[],q,k,r,h=>⟨[],rfl,h⟩
 |p::l,q,k,r,h=>by simp only[So] at h;obtain⟨o,h1,a⟩:=awm h;obtain⟨os,h3,h4⟩:=aiF a;grind [Au,eK]
end
def Km (σ:ak) (ms:List bO) (fl:List (Mode×TD)) (kk:Nat) (aC:bu):Option (cv aC.cu):=
 y6 σ.oB ms fun vs=>GF σ.oB.h vs fun ds ns=>fH (Gc ns) (dq ds.length kk (So σ 0 fl fun os=>rz aC (ds++os.map fun o=>(.one,[o]))))
theorem Sx {σ:ak} {ms:List bO} {fl:List (Mode×TD)} {b:Nat} {aC:bu} {y:cv aC.cu} (h:Km σ ms fl b aC=some y): σ.er.Az ms (fl.map fun p=>(p.1,p.2.1.er p.2.2))=some (AE b (eG aC y)):=by unfold Km at h;obtain⟨vs,j,k⟩:=Ed h;obtain⟨ds,ns,g,a⟩:=Ot k;have f:=(cR a).1;replace a:=(cR a).2;have e:=(bn a).1;replace a:=(bn a).2;obtain⟨os,c,d⟩:=aiF a;have i:rE σ.oB.er.h (vs.map SV.er)=some (ds.map cW.er,ns):=g;have hr:σ.er.oB.xD ms=some (ds.map cW.er):=(by rw[<-ak.ar3];simp only[St.xD,j,i,ai (NM f)]);simp only[St.Az,hr,c,<-wv d,Kj,<-e];congr 2;simp_all;rw[zbV];congr 1;clear c d;induction os with|nil=>rfl|cons o os ih=>grind
def Zu (N:Nat) (T:List aF) (sc:bR) (ms:List bO) (args:bu) (mu:df) (aC:bu) (x:cv args.cu):Option (cv aC.cu):=
 pg N T sc (Ol mu args x) (fun σ=>Km σ ms (AB mu args x) (aC.length - mu.uh) aC) (fun _ _=>none) (fun σ=>Km σ ms (AB mu args x) (aC.length - mu.uh) aC)
theorem auh {T:List aF} {sc:bR} {ms:List bO} {args:bu} {mu:df} {aC:bu} {x:cv args.cu} {y:cv aC.cu} (h:Zu bW T sc ms args mu aC x=some y): RG (dG T) sc.er ms mu (eG args x)=some (AE (aC.length - mu.uh) (eG aC y)):=by obtain⟨o,b,a⟩:=u0 sc h;rw[ZW] at b;unfold RG;rw[b];cases o with|gT τ=>obtain⟨c,rfl,a⟩:=a;simp only[<-J3];exact Sx a|ret τ=>obtain⟨c,rfl,a⟩:=a;simp only[<-J3];exact Sx a|ext i τ=>obtain⟨c,rfl,a⟩:=a;cases a
def N5 (N:Nat) (T:List aF) (sc:bR) (ms:List bO) (i:Nat) (args aC:bu) (lo hi:Int) (x:cv args.cu):Option (cv aC.cu):=
 match AB (pi i) args x with
 |[(_,⟨.list ts,xs⟩)]=>(jP lo hi (aa (α:=Ty.DL ts) xs)).ae fun p=>
  pg N T sc ((Ol (pi i) args x).put (some i) (.one (.sl aY 1 p.1 p.2))) (fun σ=>Km σ ms (AB (pi i) args x) (aC.length - 1) aC) (fun _ _=>none) (fun σ=>Km σ ms (AB (pi i) args x) (aC.length - 1) aC)
 |_=>none
theorem aum {T:List aF} {sc:bR} {ms:List bO} {i:Nat} {args aC:bu} {lo len:Nat} {x:cv args.cu} {y:cv aC.cu} (h:N5 bW T sc ms i args aC (lo:Int) ((lo+len:Nat):Int) x=some y): RM (dG T) sc.er ms i lo len (eG args x)=some (AE (aC.length - 1) (eG aC y)):=by unfold N5 at h;split at h;rw[fC] at h;obtain⟨p,b,h⟩:=h;have f:p=(lo,len):=(by unfold jP at b;split at b;injection b with b;rw[<-b];congr 1;omega;cases b);subst f;obtain⟨o,c,a⟩:=u0 sc h;rw[ak.fJ,ZW] at c;unfold RM St.win;have e:(SV.one (.sl aY 1 lo len)).er=aw.one (.sl aY 1 lo len):=rfl;rw[e] at c;rw[c];(cases o with|gT τ=>obtain⟨d,rfl,a⟩:=a;simp only[<-J3];exact Sx a|ret τ=>obtain⟨d,rfl,a⟩:=a;simp only[<-J3];exact Sx a|ext i τ=>obtain⟨d,rfl,a⟩:=a;cases a);cases h
def N7 (k:K) (ts:List Ty) (x:Ty.DL ts):SV:=
 match k with
 |.one=>match Ty.cells ts x with
  |[c]=>.one c
  |_=>.one .cj
 |.agg=>.agg (Ty.cells ts x)
 |.ptr=>.one (.ptr aY 0 0 0)
theorem ahC (k:K) (ts:List Ty) (x:Ty.DL ts):(N7 k ts x).er=Li (k,Ty.aQ ts x):=by
 cases k with
 |one=>
  match ts,x with
  |[],x=>rfl
  |[t],x=>rfl
  |t::u::[],x=>rfl
  |t::u::v::ts,x=>rfl
 |agg=>simp only[N7,SV.er,Li,Ty.pq]
 |ptr=>rfl
def Ok:Nat->(as:bu)->cv as.cu->(Nat->SV)
 |_,[],_=>fun _=>.one .cj
 |k,[a],x=>aN (fun _=>.one .cj) k (N7 a.1 a.2 x)
 |k,a::b::as,x=>aN (Ok (k+1) (b::as) x.2) k (N7 a.1 a.2 x.1)
theorem aip:∀(k:Nat) (as:bu) (x:cv as.cu),wW (Ok k as x)=z9 k (eG as x)
 |k,[],x=>rfl
 |k,[a],x=>by have e:(N7 a.1 a.2 x).er=Li (a.1,Ty.aQ a.2 x):=ahC a.1 a.2 x;simp only[Ok,eG,z9,Bo];rw[e];rfl
 |k,a::b::as,x=>by have ih:=aip (k+1) (b::as) x.2;simp_all [Ok,eG,Bo,ahC,z9]
def u7:(as:bu)->cv as.cu->Option (List TD)
 |[],_=>none
 |[a],x=>match a.1.Ab with
  |true=>some (Ty.jF a.2 x)
  |false=>none
 |a::b::as,x=>match a.1.Ab with
  |true=>some (Ty.jF a.2 x.1)
  |false=>u7 (b::as) x.2
theorem ag2 (k:K) (xs:List C) (ds:List Dv):sr ((k,xs)::ds)=match k.Ab with|true=>some xs|false=>sr ds:=by cases k<;>rfl
theorem aew (k:K) (ts:List Ty) (as:bu):Mi ((k,ts)::as)=match k.Ab with|true=>true|false=>Mi as:=by cases k<;>rfl
theorem Sr:∀(as:bu) (x:cv as.cu),(u7 as x).map eK=sr (eG as x)
 |[],_=>rfl
 |[(k,ts)],x=>by simp only[u7,eG,ag2];cases k.Ab with|true=>exact congrArg some (Ty.rK ts x)|false=>rfl
 |(k,ts)::b::as,x=>by simp only[u7,eG,ag2];cases k.Ab with|true=>simp only[IN];rw[Ty.rK]|false=>exact Sr (b::as) x.2
theorem aiM:∀(as:bu) (x:cv as.cu),(u7 as x).isSome=Mi as
 |[],_=>rfl
 |[(k,ts)],x=>by simp only[u7,aew];cases k.Ab<;>rfl
 |(k,ts)::b::as,x=>by simp only[u7];rw[aew];cases k.Ab with|true=>rfl|false=>exact aiM (b::as) x.2
def air (as:bu) (x:cv as.cu):Nat->Option SB:=fun n=>match Pe n aY with
 |true=>match u7 as x with
  |some l=>some (.box (l.map fun y=>.v y.1 y.2))
  |none=>none
 |false=>none
def ZX (as:bu) (x:cv as.cu):ak:={env:=Ok 0 as x,h:=air as x,used:=fun n=>zag aY n}
theorem awh (as:bu) (x:cv as.cu):(ZX as x).er=Nn (eG as x):=by simp only[ZX,ak.er,Nn,aip];congr 1;grind [eM,air,v9,Sr,SB.er,aaQ]
section
variable {ρ:Type}
def Su (h:Nat->Option SB):List SV->(List cW->Option ρ)->Option ρ
 |[],k=>k []
 |v::vs,k=>match v.cells? with
  |some (ag,cs)=>GK h cs fun l=>Su h vs fun ds=>k ((QM ag,l)::ds)
  |none=>none
theorem aiR {h:Nat->Option SB}:∀{vs:List SV} {k:List cW->Option ρ} {r:ρ},Su h vs k=some r->∃ds,xC (eM h) (vs.map SV.er)=some (ds.map cW.er)/\k ds=some r
 |[],k,r,hx=>⟨[],rfl,hx⟩
 |v::vs,k,r,hx=>by simp only[Su] at hx;split at hx;rename_i ag cs a;obtain⟨l,d,b⟩:=Oz hx;obtain⟨ds,e,c⟩:=aiR b;refine⟨_,?_,c⟩;simp only[If,xC,SV.pq a,d,e,cW.er];cases ag<;>rfl;cases hx
def aiL:List SV->Option (Nat×Nat×Nat)
 |[v]=>v.tF
 |_=>none
def aag (h:Nat->Option SB) (vs:List SV) (k:List cW->Option ρ):Option ρ:=
 match aiL vs with
 |some (n,kk,off)=>match RQ h n kk off with
  |some l=>match zag aY n with
   |true=>none
   |false=>k [(.ptr,l)]
  |none=>none
 |none=>Su h vs k
theorem awv {h:Nat->Option SB} {vs:List SV} {k:List cW->Option ρ} {r:ρ} (hx:aag h vs k=some r):∃ds,N3 (eM h) (vs.map SV.er)=some (ds.map cW.er)/\k ds=some r:=by
 unfold aag at hx;split at hx
 ·rename_i n g off a;have c:∃sz,vs=[.one (.ptr n g sz off)]:=by
   unfold aiL at a;split at a
   ·obtain⟨sz,rfl⟩:=ag1 a;exact⟨sz,rfl⟩
   ·cases a
  obtain⟨sz,rfl⟩:=c;split at hx
  ·rename_i l hl;split at hx
   ·cases hx
   ·rename_i d;refine⟨_,?_,hx⟩;have e:=ahF (sz:=sz) hl;have hn:¬aY<=n:=fun j=>by rw[zar j] at d;cases d
    simp only[If,zbi,N3,e];rw[aq hn];rfl
  ·cases hx
 ·rename_i a;obtain⟨ds,f,m⟩:=aiR hx;refine⟨ds,?_,m⟩;unfold N3;split
  ·rename_i o b;have c:∃v,vs=[v]/\o=v.er:=by
    match vs,b with
    |[v],b=>simp at b;exact⟨v,rfl,b.symm⟩
   obtain⟨v,rfl,rfl⟩:=c;have i:v.tF=none:=a;rw[ag0 i];exact f
  ·exact f
def Z6 (h:Nat->Option SB) (cur:Option (List TD)) (k:List cW->Option ρ):Option ρ:=
 match cur with
 |none=>k []
 |some xs=>match h aY with
  |some (.box cs)=>dq cs.length xs.length (match D8 cs with
   |some l=>k [(.ptr,l)]
   |none=>none)
  |_=>none
theorem awo {h:Nat->Option SB} {cur:Option (List TD)} {k:List cW->Option ρ} {r:ρ} (hx:Z6 h cur k=some r): ∃os:List cW,Q7 (eM h) (cur.map eK)=some (eK (os.flatMap (·.2)))/\os.length=(match cur.isSome with|true=>1|false=>0)/\k os=some r:=by unfold Z6 at hx;split at hx;exact⟨[],rfl,rfl,hx⟩;rename_i xs;split at hx;rename_i cs hn;have a:=(bn hx).1;replace hx:=(bn hx).2;split at hx;rename_i l hl;refine⟨[(.ptr,l)],?_,rfl,hx⟩;simp only[IN,Q7,eM,hn,SB.er,zah];rw[ai (by rw[a,eK,zah]),Og hl];simp;cases hx;cases hx
end
def aiV {ρ:Type} (h:Nat->Option SB):Bool->List SV->(List cW->Option ρ)->Option ρ
 |false,vs,k=>aag h vs k
 |true,vs,k=>GF h vs fun ds ns=>fH (Gc ns) (k ds)
theorem awu {ρ:Type} {h:Nat->Option SB} {ow:Bool} {vs:List SV} {k:List cW->Option ρ} {r:ρ} (hx:aiV h ow vs k=some r):∃ds,JP (eM h) ow (vs.map SV.er)=some (ds.map cW.er)/\k ds=some r:=by cases ow with|false=>exact awv hx|true=>obtain⟨ds,ns,b,a⟩:=Ot hx;have c:=(cR a).1;replace a:=(cR a).2;refine⟨ds,?_,a⟩;simp only[JP,b];rw[ai (NM c)]
def DO:Bool->df
 |false=>[[some .bh]]
 |true=>[[some .bh],[]]
def Sp {ρ:Type} (ow:Bool) (h:Nat->Option SB) (cur:Option (List TD)) (k:List cW->Option ρ):Option ρ:=
 match ow with
 |false=>Z6 h cur k
 |true=>match cur with
  |none=>k []
  |some _=>match h aY with
   |some (.box _)=>k []
   |_=>none
theorem awn {ρ:Type} {ow:Bool} {h:Nat->Option SB} {args:bu} {x:cv args.cu} {k:List cW->Option ρ} {r:ρ} (hx:Sp ow h (u7 args x) k=some r): ∃os:List cW,Gg (eM h) ow (sr (eG args x))=some (eK (os.flatMap (·.2)))/\xw (DO ow) args=os.length/\k os=some r:=by cases ow with|false=>obtain⟨os,c,b,a⟩:=awo hx;refine⟨os,by rw[<-Sr];exact c,?_,a⟩;rw[b,aiM];show YO args=_;grind [YO]|true=>refine⟨[],?_,rfl,?_⟩;rw[<-Sr];(cases hs:u7 args x with|none=>rfl|some y=>grind [Sp,Gg,eM,SB.er,eK]);cases hs:u7 args x with|none=>rw[hs] at hx;exact hx|some y=>grind [Sp]
def Sz (ow:Bool) (σ:ak) (ms:List bO) (cur:Option (List TD)) (aC:bu):Option (cv aC.cu):=
 y6 σ ms fun vs=>aiV σ.h ow vs fun ds=>Sp ow σ.h cur fun os=>rz aC (ds++os)
theorem aiW {ow:Bool} {σ:ak} {ms:List bO} {args:bu} {x:cv args.cu} {aC:bu} {y:cv aC.cu} (h:Sz ow σ ms (u7 args x) aC=some y): σ.er.JQ ow ms (eG args x)=some (AE (aC.length - xw (DO ow) args) (eG aC y)):=by unfold Sz at h;obtain⟨vs,i,j⟩:=Ed h;obtain⟨ds,e,b⟩:=awu j;obtain⟨os,c,yu,d⟩:=awn b;have a:=wv d;have hlen:aC.length=ds.length+os.length:=(by have:=congrArg zbr a;rw[C6,zah,zas] at this;exact this.symm);have f:aC.length - xw (DO ow) args=ds.length:=(by omega);have g:JP σ.er.h ow (vs.map SV.er)=some (ds.map cW.er):=e;simp only[St.JQ,i,g,show Gg σ.er.h ow (sr (eG args x))=_ from c,f];rw[<-a,Kj,List.take_left,zbV]
def Zx (N:Nat) (ow:Bool) (T:List aF) (sc:bR) (ms:List bO) (args aC:bu) (x:cv args.cu):Option (cv aC.cu):=
 pg N T sc (ZX args x) (fun σ=>Sz ow σ ms (u7 args x) aC) (fun _ _=>none) (fun σ=>Sz ow σ ms (u7 args x) aC)
theorem auk {ow:Bool} {T:List aF} {sc:bR} {ms:List bO} {args aC:bu} {x:cv args.cu} {y:cv aC.cu} (h:Zx bW ow T sc ms args aC x=some y): RH ow (dG T) sc.er ms (eG args x)=some (AE (aC.length - xw (DO ow) args) (eG aC y)):=by obtain⟨o,b,a⟩:=u0 sc h;rw[awh] at b;unfold RH;rw[b];cases o with|gT τ=>obtain⟨c,rfl,a⟩:=a;exact aiW a|ret τ=>obtain⟨c,rfl,a⟩:=a;exact aiW a|ext i τ=>obtain⟨c,rfl,a⟩:=a;cases a
def Ej:bu:=[(.one,[.int .i64]),(.one,[.int .i64])]
def SD (σ:ak) (ms:List bO):Option (cv (bu.cu Ej)):=
 y6 σ ms fun vs=>match vs with
  |[.one (.sl n sz lo len)]=>dq n aY (match σ.h aY with
   |some (.row _ _ ts xs)=>dq sz ts.length ((dg (0:Int) (aa xs)).ae fun _=>some (aK lo,aK (au lo len)))
   |_=>none)
  |_=>none
theorem aiX {σ:ak} {ms:List bO} {y:cv (bu.cu Ej)} (h:SD σ ms=some y):∃lo len,σ.er.JR ms=some (lo,len)/\aaS (eG Ej y)=some (lo,len):=by unfold SD at h;obtain⟨vs,g,a⟩:=Ed h;split at a;rename_i n sz lo len;have d:=(bn a).1;replace a:=(bn a).2;split at a;rename_i c b ts xs i;have PW:=(bn a).1;replace a:=(bn a).2;rw[fC] at a;obtain⟨k,hk,a⟩:=a;injection a with a;refine⟨lo,len,?_,?_⟩;have f:σ.er.h aY=some (.row c b ts.length (za0 (Ty.aQ ts) xs)):=(by simp only[ak.er,eM,i,SB.er,IN]);unfold St.JR;rw[g];simp only[If,zbi,SV.er,SC.er];rw[ai d,f];(cases xs with|nil=>simp_all [dg,aa]|cons e es=>simp_all);subst a;show some (((lo:Nat):Int).toNat,(((lo+len:Nat):Int) - ((lo:Nat):Int)).toNat)=some (lo,len);grind;cases a;cases a
def RL (N:Nat) (T:List aF) (sc:bR) (ms:List bO) (args:bu) (mu:df) (x:cv args.cu):Option (cv (bu.cu Ej)):=
 match AB mu args x with
 |[_]=>pg N T sc (Ol mu args x) (fun σ=>SD σ ms) (fun _ _=>none) (fun σ=>SD σ ms)
 |_=>none
theorem aul {T:List aF} {sc:bR} {ms:List bO} {args:bu} {mu:df} {x:cv args.cu} {y:cv (bu.cu Ej)} (h:RL bW T sc ms args mu x=some y): ∃lo len,RJ (dG T) sc.er ms mu (eG args x)=some (lo,len)/\aaS (eG Ej y)=some (lo,len):=by unfold RL at h;split at h;rename_i p d;obtain⟨o,b,a⟩:=u0 sc h;rw[ZW] at b;unfold RJ;rw[<-J3,d];simp only[If,zbi];rw[b];(cases o with|gT τ=>obtain⟨c,rfl,a⟩:=a;exact aiX a|ret τ=>obtain⟨c,rfl,a⟩:=a;exact aiX a|ext i τ=>obtain⟨c,rfl,a⟩:=a;cases a);cases h
def Sy (σ:ak) (ms:List bO) (aC:bu):Option (cv aC.cu):=
 y6 σ ms fun vs=>match vs with
  |[.one (.sl n sz lo len)]=>match σ.h n with
   |some (.row true .live ts xs)=>dq ts.length sz (dq lo 0 ((dO xs len).ae fun ys=>rz aC [(.one,[⟨.list ts,ys⟩])]))
   |_=>none
  |_=>none
theorem aiU {σ:ak} {ms:List bO} {aC:bu} {y:cv aC.cu} (h:Sy σ ms aC=some y):σ.er.Gr ms=some (eG aC y):=by unfold Sy at h;obtain⟨vs,i,a⟩:=Ed h;split at a;rename_i n sz lo len;split at a;rename_i ts xs hn;have b:=(bn a).1;replace a:=(bn a).2;subst b;have b:=(bn a).1;replace a:=(bn a).2;subst b;rw[fC] at a;obtain⟨ys,e,a⟩:=a;obtain⟨d,f⟩:=aaB e;have c:σ.er.h n=some (.row true .live ts.length (za0 (Ty.aQ ts) xs)):=(by simp[ak.er,eM,hn,SB.er]);have hm:=wv a;have g:σ.er.su ms=some [.one (.sl n ts.length 0 len)]:=i;have hr:mV σ.er.h (.sl n ts.length 0 len)=some (.list ts.length (za0 (Ty.aQ ts) ys),[n]):=(by simp[mV,c,d,f]);have j:Jv σ.er.h (.sl n ts.length 0 len)=true:=(by simp only[Jv,c]);simp only[St.Gr,g,hr,j,if_true];rw[<-hm];rfl;cases a;cases a
def Zv (N:Nat) (T:List aF) (sc:bR) (ms:List bO) (args aC:bu) (x:cv args.cu):Option (cv aC.cu):=
 pg N T sc (Sh args x) (fun σ=>Sy σ ms aC) (fun _ _=>none) (fun σ=>Sy σ ms aC)
theorem aui {T:List aF} {sc:bR} {ms:List bO} {args aC:bu} {x:cv args.cu} {y:cv aC.cu} (h:Zv bW T sc ms args aC x=some y): runN (dG T) sc.er ms (eG args x)=some (eG aC y):=by obtain⟨o,b,a⟩:=u0 sc h;rw[ais] at b;unfold runN;rw[b];cases o with|gT τ=>obtain⟨c,rfl,a⟩:=a;exact aiU a|ret τ=>obtain⟨c,rfl,a⟩:=a;exact aiU a|ext i τ=>obtain⟨c,rfl,a⟩:=a;cases a
def abl (P:Program) (fn:aF):Prop:=(fn.mu.jH=0->eI P fn.id fn.M)/\(fn.mu.jH=1->zi P fn.id fn.mu fn.MM)/\(fn.mu.jH=2->oH P (zC fn.id) fn.mu.own fn.MV)/\(fn.mu.jH=3->Hk P fn.id fn.mu.tl fn.MW)/\(fn.mu.jH=4->ED P fn.id fn.mu.oD fn.MX)/\(fn.mu.jH=5->zj P fn.id fn.M)/\(fn.mu.jH=0->cB P fn.id=true)
def aE (P:Program) (T:List aF):Prop:=∀fn∈T,abl P fn
theorem aE.nil {P:Program}:aE P []:=fun _ h=>by cases h
theorem aE.HJ {P:Program} {fn:aF} {T:List aF} (h:abl P fn) (b:aE P T):aE P (fn::T):=by intro g a;cases a with|head=>exact h|tail _ a=>exact b g a
theorem aE.cons {P:Program} {f:FuncId} {args aC:bu} {F:cv args.cu->Option (cv aC.cu)} {T:List aF} (h:eI P f (aF.M ⟨f,args,[],aC,F⟩)/\cB P f=true) (a:aE P T):aE P (⟨f,args,[],aC,F⟩::T):= aE.HJ ⟨fun _=>h.1,fun hm=>(by cases hm),fun hm=>(by cases hm),fun hm=>(by cases hm),fun hm=>(by cases hm),fun hm=>(by cases hm),fun _=>h.2⟩ a
theorem aE.EU {P:Program} {f:FuncId} {args:bu} {s:List (Option Mode)} {mu:df} {aC:bu} {F:cv args.cu->Option (cv aC.cu)} {T:List aF} (h:zi P f (s::mu) (aF.MM ⟨f,args,s::mu,aC,F⟩)/\cB P f=true) (b:aE P T) (a:df.jH (s::mu)=1:=by rfl):aE P (⟨f,args,s::mu,aC,F⟩::T):= aE.HJ ⟨fun hm=>absurd (a.symm.trans hm) (by decide),fun _=>h.1,fun hm=>absurd (a.symm.trans hm) (by decide),fun hm=>absurd (a.symm.trans hm) (by decide),fun hm=>absurd (a.symm.trans hm) (by decide),fun hm=>absurd (a.symm.trans hm) (by decide),fun hm=>absurd (a.symm.trans hm) (by decide)⟩ b
theorem aE.mK {P:Program} {f:FuncId} {args:bu} {ow:Bool} {aC:bu} {F:cv args.cu->Option (cv aC.cu)} {T:List aF} {g:FuncId} (h:oH P (zC f) ow (aF.MV ⟨f,args,DO ow,aC,F⟩)/\cB P g=true) (a:aE P T):aE P (⟨f,args,DO ow,aC,F⟩::T):=by cases ow<;>exact aE.HJ ⟨fun hm=>(by cases hm),fun hm=>(by cases hm),fun _=>h.1,fun hm=>(by cases hm),fun hm=>(by cases hm),fun hm=>(by cases hm),fun hm=>(by cases hm)⟩ a
theorem aE.Vk {P:Program} {f:FuncId} {args:bu} {mu:df} {aC:bu} {F:cv args.cu->Option (cv aC.cu)} {T:List aF} (h:Hk P f mu (aF.MW ⟨f,args,[some .bh,some .bh]::mu,aC,F⟩)/\cB P f=true) (a:aE P T):aE P (⟨f,args,[some .bh,some .bh]::mu,aC,F⟩::T):= aE.HJ ⟨fun hm=>(by cases hm),fun hm=>(by cases hm),fun hm=>(by cases hm),fun _=>h.1,fun hm=>(by cases hm),fun hm=>(by cases hm),fun hm=>(by cases hm)⟩ a
theorem aE.LC {P:Program} {f:FuncId} {args:bu} {mu:df} {aC:bu} {F:cv args.cu->Option (cv aC.cu)} {T:List aF} (h:ED P f (df.oD ([some .bh,some .bh,some .bh]::mu)) (aF.MX ⟨f,args,[some .bh,some .bh,some .bh]::mu,aC,F⟩)/\cB P f=true) (a:aE P T):aE P (⟨f,args,[some .bh,some .bh,some .bh]::mu,aC,F⟩::T):= aE.HJ ⟨fun hm=>(by cases hm),fun hm=>(by cases hm),fun hm=>(by cases hm),fun hm=>(by cases hm),fun _=>h.1,fun hm=>(by cases hm),fun hm=>(by cases hm)⟩ a
theorem aE.gp {P:Program} {f:FuncId} {args:bu} {mu:df} {aC:bu} {F:cv args.cu->Option (cv aC.cu)} {T:List aF} (h:zj P f (aF.M ⟨f,args,[some .bh,some .bh,some .bh,some .bh]::mu,aC,F⟩)/\cB P f=true) (a:aE P T):aE P (⟨f,args,[some .bh,some .bh,some .bh,some .bh]::mu,aC,F⟩::T):= aE.HJ ⟨fun hm=>(by cases hm),fun hm=>(by cases hm),fun hm=>(by cases hm),fun hm=>(by cases hm),fun hm=>(by cases hm),fun _=>h.1,fun hm=>(by cases hm)⟩ a
theorem aav:∀{T:List aF} {f:FuncId} {M:List Dv->Option (List Dv)},bz.find (dG T).ns f=some M->∃fn∈T,fn.id=f/\M=fn.M/\fn.mu.jH=5
 |[],f,M,h=>by simp[dG,bz.find] at h
 |g::l,f,M,h=>by simp only[dG,zam] at h;by_cases d:g.mu.jH=5;simp only[d,bz.find] at h;split at h;simp_all;obtain⟨fn,b,a,c⟩:=aav (T:=l) h;grind;split at h;obtain⟨fn,b,a,c⟩:=aav (T:=l) h;grind;simp_all
theorem SN:∀{T:List aF} {f:FuncId} {M:List Dv->Option (List Dv)},bz.find (dG T).pure f=some M->∃fn∈T,fn.id=f/\M=fn.M/\fn.mu.jH=0
 |[],f,M,h=>by simp[dG,bz.find] at h
 |g::l,f,M,h=>by simp only[dG,zam] at h;by_cases d:g.mu.jH=0;simp only[d,bz.find] at h;split at h;simp_all;obtain⟨fn,b,a,c⟩:=SN (T:=l) h;grind;split at h;obtain⟨fn,b,a,c⟩:=SN (T:=l) h;grind;simp_all
theorem aau:∀{T:List aF} {f:FuncId} {sig:df} {M:List Dv->Option (List Dv×List C)},bz.uo (dG T).DP f=some (sig,M)->∃fn∈T,fn.id=f/\sig=fn.mu/\M=fn.MM/\fn.mu.jH=1
 |[],f,sig,M,h=>by simp[dG,bz.uo] at h
 |g::l,f,sig,M,h=>by simp only[dG,zam] at h;by_cases d:g.mu.jH=1;simp only[d,bz.uo] at h;split at h;simp_all;obtain⟨fn,b,a,c⟩:=aau (T:=l) h;grind;split at h;obtain⟨fn,b,a,c⟩:=aau (T:=l) h;grind;simp_all
theorem aaw:∀{T:List aF} {f:FuncId} {M:Bool×(List Dv->Option (List Dv×List C))},bz.rO (dG T).vs f=some M->∃fn∈T,fn.id=f/\M=(fn.mu.own,fn.MV)/\fn.mu.jH=2
 |[],f,M,h=>by simp[dG,bz.rO] at h
 |g::l,f,M,h=>by simp only[dG,zam] at h;by_cases d:g.mu.jH=2;simp only[d,bz.rO] at h;split at h;simp_all;obtain⟨fn,b,a,c⟩:=aaw (T:=l) h;grind;split at h;obtain⟨fn,b,a,c⟩:=aaw (T:=l) h;grind;simp_all
theorem aax:∀{T:List aF} {f:FuncId} {sig:df} {M:List Dv->Option (Nat×Nat)},bz.ye (dG T).ws f=some (sig,M)->∃fn∈T,fn.id=f/\sig=fn.mu.tl/\M=fn.MW/\fn.mu.jH=3
 |[],f,sig,M,h=>by simp[dG,bz.ye] at h
 |g::l,f,sig,M,h=>by simp only[dG,zam] at h;by_cases d:g.mu.jH=3;simp only[d,bz.ye] at h;split at h;simp_all;obtain⟨fn,b,a,c⟩:=aax (T:=l) h;grind;split at h;obtain⟨fn,b,a,c⟩:=aax (T:=l) h;grind;simp_all
theorem aay:∀{T:List aF} {f:FuncId} {sig:Nat} {M:List Dv->Option (List Dv×List C)},bz.yf (dG T).xs f=some (sig,M)->∃fn∈T,fn.id=f/\sig=fn.mu.oD/\M=fn.MX/\fn.mu.jH=4
 |[],f,sig,M,h=>by simp[dG,bz.yf] at h
 |g::l,f,sig,M,h=>by simp only[dG,zam] at h;by_cases d:g.mu.jH=4;simp only[d,bz.yf] at h;split at h;simp_all;obtain⟨fn,b,a,c⟩:=aay (T:=l) h;grind;split at h;obtain⟨fn,b,a,c⟩:=aay (T:=l) h;grind;simp_all
theorem aE.tok {P:Program} {T:List aF} (h:aE P T):pQ P (dG T):=by refine⟨fun g M f=>?_,fun g sig M f=>?_,fun g ow M f=>?_,⟨fun g sig M f=>?_,fun g sig M f=>?_⟩,fun g M f=>?_,fun g M f=>?_⟩;obtain⟨d,e,b,a,c⟩:=SN f;subst b a;exact(h d e).1 c;obtain⟨d,e,b,a,c,i⟩:=aau f;subst b a c;exact(h d e).2.1 i;obtain⟨d,e,b,a,c⟩:=aaw f;injection a with a i;subst b a i;exact(h d e).2.2.1 c;obtain⟨d,e,b,a,c,i⟩:=aax f;subst b a c;exact(h d e).2.2.2.1 i;obtain⟨d,e,b,a,c,i⟩:=aay f;subst b a c;exact(h d e).2.2.2.2.1 i;obtain⟨d,e,b,a,c⟩:=aav f;subst b a;exact(h d e).2.2.2.2.2.1 c;obtain⟨d,e,b,a,c⟩:=SN f;subst b;exact(h d e).2.2.2.2.2.2 c
def oK (P:Program) (f:FuncId) (mc:mH) (ms:List bO) (n:Nat):Bool:=
 match P.funcs[f]? with
 |some fn=>match fn.body with
  |some c=>lF P fn.ntmps c mc&&pT P fn.results.toList ms&&decide (n<=fn.ntmps)&&(fn.name != "runtime.NumGoroutine")
  |none=>false
 |none=>false
theorem HC {P:Program} {f:FuncId} {a:mH} {ms:List bO} {n:Nat} (h:oK P f a ms n=true):cB P f=true:=by unfold oK at h;unfold cB;grind
theorem aty {P:Program} {T:List aF} (j:aE P T) (hm:P.follows .mixedOrders=true) {f:FuncId} {sc:bR} {ms:List bO} {args aC:bu} (a:oK P f sc.er ms args.length=true) (F:cv args.cu->Option (cv aC.cu)) (g:∀x y,F x=some y->Zw bW T sc ms args aC x=some y):eI P f (aF.M ⟨f,args,[],aC,F⟩)/\cB P f=true:=by refine⟨?_,HC a⟩;unfold oK at a;split at a;rename_i fn i;split at a;rename_i c b;simp only[AN,decide_eq_true_eq] at a;refine atw (T:=dG T) j.tok hm i b a.1.1.1 a.1.1.2 fun ds rs k=>?_;obtain⟨x,y,e,h,d⟩:=aF.Hc k;subst e d;exact⟨by rw[C6];exact a.1.2,auj (g x y h)⟩;cases a;cases a
theorem arP {P:Program} {T:List aF} (m:aE P T) (hm:P.follows .mixedOrders=true) {f:FuncId} {sc:bR} {ms:List bO} {args:bu} {mu:df} {aC:bu} (a:oK P f sc.er ms args.length=true) (F:cv args.cu->Option (cv aC.cu)) (j:∀x y,F x=some y->Zu bW T sc ms args mu aC x=some y):zi P f mu (aF.MM ⟨f,args,mu,aC,F⟩)/\cB P f=true:=by refine⟨?_,HC a⟩;unfold oK at a;split at a;rename_i fn l;split at a;rename_i c e;simp only[AN,decide_eq_true_eq] at a;refine arO (T:=dG T) m.tok hm l e a.1.1.1 a.1.1.2 fun ds rs fy b=>?_;unfold aF.MM at b;rw[zae] at b;obtain⟨pf,h,d⟩:=b;obtain⟨x,y,i,k,g⟩:=aF.Hc h;subst i g;refine⟨by rw[C6];exact a.1.2,?_⟩;rw[<-d];exact auh (j x y k);cases a;cases a
abbrev iA:K×List Ty:=(.one,[.int .i64])
theorem axe {P:Program} {T:List aF} (r:aE P T) (hm:P.follows .mixedOrders=true) {f:FuncId} {sc:bR} {ms:List bO} {b:K×List Ty} {args:bu} {mu:df} {aC:bu} (a:oK P f sc.er ms (b::args).length=true) (F:cv (bu.cu (iA::iA::b::args))->Option (cv aC.cu)) (o:∀x y,F x=some y->N5 bW T sc ms mu.oD (b::args) aC x.1 x.2.1 x.2.2=some y):ED P f mu.oD (aF.MX ⟨f,iA::iA::b::args,mu,aC,F⟩)/\cB P f=true:=by refine⟨?_,HC a⟩;unfold oK at a;split at a;rename_i fn q;split at a;rename_i c j;simp only[AN,decide_eq_true_eq] at a;refine axd (T:=dG T) r.tok hm q j a.1.1.1 a.1.1.2 fun lo len ds rs fy h=>?_;unfold aF.MX at h;rw[zae] at h;obtain⟨pf,n,i⟩:=h;obtain⟨x,y,g,p,m⟩:=aF.Hc n;subst m;obtain⟨xa,xb,xs⟩:=x;have g:dI lo::dI (lo+len)::ds=((.one,[.int .i64 xa]):Dv)::((.one,[.int .i64 xb]):Dv)::eG (b::args) xs:=g;injection g with e d;injection d with d g3;have k:xa=((lo:Nat):Int):=(by unfold dI at e;injection e with _ e;injection e with e _;injection e with _ e;exact e.symm);have l:xb=((lo+len:Nat):Int):=(by unfold dI at d;injection d with _ d;injection d with d _;injection d with _ d;exact d.symm);subst k l g3;refine⟨by rw[C6];exact a.1.2,?_⟩;rw[<-i];exact aum (o _ y p);cases a;cases a
theorem aw1 {P:Program} {T:List aF} (n:aE P T) (hm:P.follows .mixedOrders=true) {f:FuncId} {sc:bR} {ms:List bO} {args aC:bu} (a:oK P f sc.er ms args.length=true) {ow:Bool} {i:FuncId} (F:cv args.cu->Option (cv aC.cu)) (k:∀x y,F x=some y->Zx bW ow T sc ms args aC x=some y):oH P f ow (aF.MV ⟨i,args,DO ow,aC,F⟩)/\cB P f=true:=by refine⟨?_,HC a⟩;unfold oK at a;split at a;rename_i fn m;split at a;rename_i c e;simp only[AN,decide_eq_true_eq] at a;refine aw0 (T:=dG T) n.tok hm m e a.1.1.1 a.1.1.2 fun ds rs out b=>?_;unfold aF.MV at b;rw[zae] at b;obtain⟨pf,h,d⟩:=b;obtain⟨x,y,j,l,g⟩:=aF.Hc h;subst j g;refine⟨by rw[C6];exact a.1.2,?_⟩;rw[<-d];exact auk (k x y l);cases a;cases a
theorem aw5 {P:Program} {T:List aF} (m:aE P T) (hm:P.follows .mixedOrders=true) {f:FuncId} {sc:bR} {ms:List bO} {args:bu} {mu:df} (a:oK P f sc.er ms args.length=true) (e:wA sc.er=true) (F:cv args.cu->Option (cv (bu.cu Ej))) (j:∀x y,F x=some y->RL bW T sc ms args mu x=some y):Hk P f mu (aF.MW ⟨f,args,[some .bh,some .bh]::mu,Ej,F⟩)/\cB P f=true:=by refine⟨?_,HC a⟩;unfold oK at a;split at a;rename_i fn l;split at a;rename_i c d;simp only[AN,decide_eq_true_eq] at a;refine aw4 (T:=dG T) m.tok hm l d a.1.1.1 a.1.1.2 e fun ds lo len b=>?_;unfold aF.MW at b;rw[zba] at b;obtain⟨pf,h,Ig⟩:=b;obtain⟨x,y,i,k,g⟩:=aF.Hc h;subst i g;obtain⟨An,xt,k1,k2⟩:=aul (j x y k);simp_all [C6];cases a;cases a
theorem arU {P:Program} {T:List aF} (j:aE P T) (hm:P.follows .mixedOrders=true) {f:FuncId} {sc:bR} {ms:List bO} {args:bu} {mu:df} {aC:bu} (a:oK P f sc.er ms args.length=true) (F:cv args.cu->Option (cv aC.cu)) (g:∀x y,F x=some y->Zv bW T sc ms args aC x=some y):zj P f (aF.M ⟨f,args,mu,aC,F⟩)/\cB P f=true:=by refine⟨?_,HC a⟩;unfold oK at a;split at a;rename_i fn i;split at a;rename_i c b;simp only[AN,decide_eq_true_eq] at a;refine arT (T:=dG T) j.tok hm i b a.1.1.1 a.1.1.2 fun ds rs k=>?_;obtain⟨x,y,e,h,d⟩:=aF.Hc k;subst e d;exact⟨by rw[C6];exact a.1.2,aui (g x y h)⟩;cases a;cases a
theorem atx {P:Program} {f:FuncId} {args:bu} {mu:df} {aC:bu} {F:cv args.cu->Option (cv aC.cu)} (h:zj P f (aF.M ⟨f,args,mu,aC,F⟩)/\cB P f=true):eI P f (aF.M ⟨f,args,[],aC,F⟩)/\cB P f=true:= ⟨zj.pure h.1,h.2⟩
def sg0:bu:=[(.one,[.int .i64]),(.one,[.int .i64]),(.one,[.int .i64])]
def iq:bu:=[(.one,[.bool])]
def fg:df:=[]
def jO:bu:=[(.one,[.int .i64])]
def sg4:bu:=[(.one,[.int .i64]),(.one,[.list [.int .i64]])]
def u6:bu:=[(.one,[.list [.int .i64]]),(.one,[.int .i64])]
def qO:bu:=[(.one,[.list [.int .i64]]),(.one,[.list [.int .i64]])]
def sA:bu:=[(.agg,[.list [.int .i64],.list [.int .i64],.list [.int .i64]])]
def Cm:bu:=[(.agg,[.list [.int .i64],.list [.int .i64],.list [.int .i64]]),(.agg,[.int .i64,.list [.list [.int .i64]]])]
def gK:bu:=[(.one,[.list [.int .i64]])]
def ahX:bu:=[(.one,[.bool]),(.one,[.list [.int .i64]])]
def Cl:df:=[[],[some .bi]]
def qN:bu:=[(.agg,[.int .i64,.int .i64,.int .i64])]
def ahY:bu:=[(.agg,[.int .i64,.int .i64,.int .i64]),(.one,[.list [.int .i64]])]
def J4:bu:=[(.agg,[.int .i64,.int .i64,.int .i64]),(.one,[.list [.int .i64]]),(.one,[.list [.int .i64]]),(.one,[.list [.int .i64]])]
def RU:bu:=[(.agg,[.int .i64,.int .i64,.int .i64]),(.agg,[.list [.int .i64],.list [.int .i64],.list [.int .i64]])]
def RW:bu:=[(.agg,[.int .i64,.list [.list [.int .i64]]]),(.one,[.list [.int .i64]])]
def ahZ:bu:=[(.agg,[.int .i64,.int .i64,.int .i64]),(.agg,[.list [.int .i64],.list [.int .i64],.list [.int .i64]]),(.one,[.int .i64]),(.one,[.list [.int .i64]])]
def ZU:df:=[[],[none,none,some .bi]]
def D4:bu:=[(.agg,[.int .i64,.int .i64,.int .i64]),(.agg,[.list [.int .i64],.list [.int .i64],.list [.int .i64]]),(.agg,[.int .i64,.list [.list [.int .i64]]])]
def D5:bu:=[(.agg,[.list [.int .i64],.list [.int .i64],.list [.int .i64]]),(.one,[.bool])]
def J5:bu:=[(.agg,[.int .i64,.int .i64,.int .i64]),(.agg,[.list [.int .i64],.list [.int .i64],.list [.int .i64]]),(.one,[.int .i64])]
def awb:bu:=[(.one,[.int .i64]),(.one,[.int .i64])]
def RX:df:=[[some .bh,some .bh],[],[none,none,some .bi]]
def D6:bu:=[(.one,[.list [.int .u8]])]
def D7:bu:=[(.ptr,[.list [.int .u8],.int .i64,.int .i64])]
def u5:df:=[[some .bh]]
def RY:bu:=[(.one,[.list [.int .u8]]),(.one,[.int .i64])]
def J6:bu:=[(.one,[.int .i64]),(.ptr,[.list [.int .u8],.int .i64,.int .i64])]
def RZ:bu:=[(.ptr,[.list [.int .u8],.int .i64,.int .i64]),(.one,[.int .i64])]
def ah0:bu:=[(.one,[.bool]),(.ptr,[.list [.int .u8],.int .i64,.int .i64])]
def ah1:bu:=[(.ptr,[.list [.int .u8],.int .i64,.int .i64]),(.one,[.list [.int .i64]])]
def ah2:bu:=[(.agg,[.list [.int .i64],.list [.int .i64],.list [.int .i64]]),(.one,[.int .i64])]
def ah3:bu:=[(.agg,[.list [.int .i64],.list [.int .i64],.list [.int .i64]]),(.agg,[.int .i64,.list [.list [.int .i64]]]),(.agg,[.list [.int .i64],.list [.int .i64],.list [.int .i64],.list [.int .i64]])]
def R0:bu:=[(.one,[.list [.list [.int .i64],.list [.int .i64],.list [.int .i64],.list [.int .i64]]])]
def ah4:df:=[[some .bh,some .bh,some .bh,some .bh]]
def ah5:bu:=[(.one,[.list [.list [.int .i64],.list [.int .i64],.list [.int .i64],.list [.int .i64]]]),(.one,[.bool])]
def ah6:bu:=[(.agg,[.int .i64,.int .i64,.int .i64]),(.one,[.list [.int .i64]]),(.one,[.list [.int .i64]])]
def ah7:bu:=[(.agg,[.int .i64,.int .i64,.int .i64]),(.agg,[.list [.int .i64],.list [.int .i64],.list [.int .i64]]),(.agg,[.int .i64,.list [.list [.int .i64]]]),(.one,[.list [.list [.int .i64],.list [.int .i64],.list [.int .i64],.list [.int .i64]]])]
def ah8:bu:=[(.agg,[.list [.int .i64],.list [.int .i64],.list [.int .i64]]),(.one,[.list [.int .i64]])]
def J7:bu:=[(.agg,[.list [.int .i64],.list [.int .i64],.list [.int .i64]]),(.agg,[.list [.int .i64],.list [.int .i64],.list [.int .i64]])]
def ah9:bu:=[(.one,[.list [.int .i64]]),(.one,[.list [.int .i64]]),(.one,[.bool])]
def aia:bu:=[(.agg,[.list [.int .i64],.list [.int .i64],.list [.int .i64],.list [.int .i64]]),(.agg,[.list [.int .i64],.list [.int .i64],.list [.int .i64],.list [.int .i64]]),(.one,[.int .i64])]
def aib:bu:=[(.agg,[.list [.int .i64],.list [.int .i64],.list [.int .i64]]),(.agg,[.int .i64,.list [.list [.int .i64]]]),(.agg,[.list [.int .i64],.list [.int .i64],.list [.int .i64]]),(.agg,[.int .i64,.list [.list [.int .i64]]])]
def aic:bu:=[(.one,[.int .i64]),(.one,[.int .i64]),(.agg,[.int .i64,.int .i64,.int .i64]),(.one,[.list [.int .i64]]),(.one,[.list [.int .i64]])]
def R9:df:=[[some .bh,some .bh,some .bh],[],[some .bi]]
def aid:bu:=[(.agg,[.int .i64,.int .i64,.int .i64]),(.agg,[.list [.int .i64],.list [.int .i64],.list [.int .i64]]),(.agg,[.list [.int .i64],.list [.int .i64],.list [.int .i64]]),(.one,[.list [.int .i64]])]
def Sa:bu:=[(.agg,[.int .i64,.int .i64,.int .i64]),(.agg,[.list [.int .i64],.list [.int .i64],.list [.int .i64]]),(.agg,[.int .i64,.list [.list [.int .i64]]]),(.agg,[.list [.int .i64],.list [.int .i64],.list [.int .i64]]),(.agg,[.int .i64,.list [.list [.int .i64]]])]
def aie:bu:=[(.agg,[.list [.int .i64],.list [.int .i64],.list [.int .i64]]),(.one,[.int .i64]),(.one,[.bool])]
def aif:bu:=[(.agg,[.int .i64,.int .i64,.int .i64]),(.ptr,[.list [.int .u8],.int .i64,.int .i64])]
def Sb:bu:=[(.ptr,[.list [.int .u8],.int .i64,.int .i64]),(.agg,[.int .i64,.int .i64,.int .i64])]
def aih:bu:=[(.one,[.list [.int .i64]]),(.ptr,[.list [.int .u8],.int .i64,.int .i64])]
def aii:bu:=[(.ptr,[.list [.int .u8],.int .i64,.int .i64]),(.one,[.int .i64]),(.one,[.int .i64])]
def aij:bu:=[(.one,[.list [.int .i64]]),(.one,[.list [.int .i64]]),(.ptr,[.list [.int .u8],.int .i64,.int .i64])]
def aik:bu:=[(.ptr,[.list [.int .u8],.int .i64,.int .i64]),(.agg,[.int .i64,.int .i64,.int .i64]),(.one,[.list [.int .i64]]),(.one,[.list [.int .i64]])]
def Sc:bu:=[(.agg,[.list [.int .i64],.list [.int .i64],.list [.int .i64]]),(.ptr,[.list [.int .u8],.int .i64,.int .i64])]
def Sd:bu:=[(.ptr,[.list [.int .u8],.int .i64,.int .i64]),(.agg,[.list [.int .i64],.list [.int .i64],.list [.int .i64]]),(.one,[.int .i64])]
def ail:bu:=[(.agg,[.int .i64,.list [.list [.int .i64]]]),(.ptr,[.list [.int .u8],.int .i64,.int .i64])]
def aim:bu:=[(.agg,[.int .i64,.list [.list [.int .i64]]])]
def awc:df:=[[some .bh],[]]
theorem aqd {X Y:Type} {f:X->Option (X⊕Y)} {r:Y} (P:Nat->X->Prop) (step:∀n x,P n x->f x=some (.inr r)\/∃m x',m<n/\f x=some (.inl x')/\P m x'): ∀n x,P n x->∀N,n<N->bS N f x=some r:=by intro n;induction n using Nat.strongRecOn with|ind n c=>intro x b N hN;cases N with|zero=>omega|succ N=>rcases step n x b with h|⟨m,x',hm,h,a⟩;simp only[bS,h];simp only[bS,h];exact c m hm x' a N (by omega)
theorem dw {α:Type} (xs:List α) (i:Nat):cg xs (i:Int)=xs[i]? :=by simp[cg]
theorem S6 {n:Int} (h1: -9223372036854775808<=n) (h2:n<=9223372036854775807):IntKind.wrap .i64 n=n:=by rw[IntKind.wrap_i64];omega
theorem dZ {a b:Int} (d: -9223372036854775808<=a+b:=by omega) (c:a+b<=9223372036854775807:=by omega):bt .i64 a b=a+b:=S6 d c
theorem rF {a b:Int} (d: -9223372036854775808<=a - b:=by omega) (c:a - b<=9223372036854775807:=by omega):lv .i64 a b=a - b:=S6 d c
theorem bV {α β:Type} (x:α) (f:α->Option β):(some x).ae f=f x:=rfl
theorem ic {X ρ:Type} (x:X) (k:X->Option ρ):bN (some (.inl x)) k=k x:=rfl
theorem X7 {X ρ:Type} (x:ρ) (k:X->Option ρ):bN (some (.inr x):Option (X⊕ρ)) k=some x:=rfl
theorem be {α:Type} {b:Bool} (h:b=true) (x y:α):aA b x y=x:=by rw[h];rfl
theorem aW {α:Type} {b:Bool} (h:b=false) (x y:α):aA b x y=y:=by rw[h];rfl
theorem nl {α:Type} (l:List α):aK (aa l)=(l.length:Int):=rfl
theorem dt {a b:Int} (h:a<b:=by omega):cH a b=true:=decide_eq_true h
theorem eB {a b:Int} (h:b<=a:=by omega):cH a b=false:=decide_eq_false (Int.not_lt.2 h)
theorem qI {a b:Int} (h:a<=b:=by omega):gZ a b=true:=decide_eq_true h
theorem B7 {a b:Int} (h:b<a:=by omega):gZ a b=false:=decide_eq_false (Int.not_le.2 h)
theorem rN {a b:Int} (h:a=b):bH a b=true:=by simp[bH,h]
theorem qw {a b:Int} (h:a≠b:=by omega):bH a b=false:=by simp[bH,h]
theorem xy {a b:Int} (h:a≠b):iQ a b=true:=by simp[iQ,h]
theorem rB {a b:Int} (h:a=b):iQ a b=false:=by simp[iQ,h]
theorem NP {p:Prop} [Decidable p] (h:¬p):de (decide p)=true:=by simp[de,h]
theorem Gd {p:Prop} [Decidable p] (h:p):de (decide p)=false:=by simp[de,h]
theorem bE (n:Nat):aU 0 n n=some ():=by simp[aU]
theorem kF {α:Type} (xs:List α):dO xs (aa xs)=some xs:=by simp[dO,aa]
theorem gj {α:Type} (xs:List α):cr xs 0 (aa xs)=some xs:=by simp[cr,aa]
theorem si {n ew:Nat} (h:n*ew<=fe):j6 (aK n) (aK n) ew=some n:=by simp[j6,aK,h]
theorem kU {i n:Nat} (h:i<n):dg (i:Int) n=some i:=by simp[dg];omega
theorem dY {n:Nat} (h:n<18446744073709551616:=by omega):n<bW:=h
theorem drop_cons {α:Type} {xs:List α} {i:Nat} {x:α} (h:xs[i]? =some x):xs.drop i=x::xs.drop (i+1):=by obtain⟨b,a⟩:=BY.1 h;rw[List.drop_eq_getElem_cons b,a]
theorem afS {X Y:Type} {f:X->Option (X⊕Y)} (st:Nat->X) {r:Y}:∀(n i:Nat),(∀j,i<=j->j<i+n->f (st j)=some (.inl (st (j+1))))->f (st (i+n))=some (.inr r)->∀N,n<N->bS N f (st i)=some r
 |0,i,_,a,N+1,_=>by have a:f (st i)=some (.inr r):=a;simp only[bS,a]
 |n+1,i,h1,a,N+1,hN=>by simp only[bS,h1 i (OF i) (by omega)];exact afS st n (i+1) (fun j h3 h4=>h1 j (by omega) (by omega)) (by rw[show i+1+n=i+(n+1) by omega];exact a) N (by omega)
 |_,_,_,_,0,h=>by omega
theorem gd {X Y:Type} {f:X->Option (X⊕Y)} (st:Nat->X) {r:Y} (n:Nat) (d:∀j,j<n->f (st j)=some (.inl (st (j+1)))) (b:f (st n)=some (.inr r)) {a:X} (c:a=st 0) {N:Nat} (e:n<N):bS N f a=some r:=by subst c;exact afS st n 0 (fun j _ h=>d j (by omega)) (by rw[zat];exact b) N e
theorem Jl {X Y α:Type} {f:X->Option (X⊕Y)} (b:List α) (mk:Nat->X) (p:α->Bool) (d fm:Y)
  (n:∀i a,b[i]? =some a->p a=true->f (mk i)=some (.inl (mk (i+1)))) (q:∀i a,b[i]? =some a->p a=false->f (mk i)=some (.inr d)) (j:f (mk b.length)=some (.inr fm)) {g:X} (l:g=mk 0) {N:Nat} (c:b.length<N):
  bS N f g=some (if b.all p=true then fm else d):=by
 subst l;have h:∀(k:Nat) (i:Nat),i+k=b.length->∀N,k<N->bS N f (mk i)=some (if(b.drop i).all p=true then fm else d):=by
  intro k;induction k with
  |zero=>
   intro i o N c;obtain⟨N,rfl⟩:∃M,N=M+1:=⟨N - 1,by omega⟩;have:i=b.length:=by omega
   subst this;simp only[bS,j,zbc,List.all_nil,if_true]
  |succ k m=>
   intro i o N c;obtain⟨N,rfl⟩:∃M,N=M+1:=⟨N - 1,by omega⟩;obtain⟨a,e⟩:∃a,b[i]? =some a:=⟨_,co (by omega)⟩;rw[drop_cons e];cases hp:p a with
   |true=>
    simp only[bS,n i a e hp,zaS,hp,zaf];exact m (i+1) (by omega) N (by omega)
   |false=>simp only[bS,q i a e hp,zaS,hp,Bool.false_and,zaD,if_false]
 exact h b.length 0 (by omega) N c
def zF {S α:Type} (step:Nat->S->α->Option S):Nat->S->List α->Option S
 |_,s,[]=>some s
 |i,s,a::as=>match step i s a with
  |some s'=>zF step (i+1) s' as
  |none=>none
theorem aqb {X Y α S:Type} {f:X->Option (X⊕Y)} (b:List α) (mk:S->Nat->X) (I:Nat->S->Prop) (step:Nat->S->α->Option S) (g:Y) (fm:S->Y)
  (r:∀i s a c,b[i]? =some a->I i s->step i s a=some c->f (mk s i)=some (.inl (mk c (i+1)))/\I (i+1) c)
  (u:∀i s a,b[i]? =some a->I i s->step i s a=none->f (mk s i)=some (.inr g))
  (o:∀s,I b.length s->f (mk s b.length)=some (.inr (fm s))) {s:S} (p:I 0 s) {j:X} (hx:j=mk s 0) {N:Nat} (e:b.length<N):
  bS N f j=some (match zF step 0 s b with|some c=>fm c|none=>g):=by
 subst hx;have m:∀(k:Nat) (i:Nat) (s:S),I i s->i+k=b.length->∀N,k<N->bS N f (mk s i)=some (match zF step i s (b.drop i) with|some c=>fm c|none=>g):=by
  intro k;induction k with
  |zero=>
   intro i s d t N e;obtain⟨N,rfl⟩:∃M,N=M+1:=⟨N - 1,by omega⟩;have:i=b.length:=by omega
   subst this;simp only[bS,o s d,zbc,zF]
  |succ k q=>
   intro i s d t N e;obtain⟨N,rfl⟩:∃M,N=M+1:=⟨N - 1,by omega⟩;obtain⟨a,h⟩:∃a,b[i]? =some a:=⟨_,co (by omega)⟩;rw[drop_cons h];cases hp:step i s a with
   |some c=>
    obtain⟨l,n⟩:=r i s a c h d hp;simp only[bS,l,zF,hp];exact q (i+1) c n (by omega) N (by omega)
   |none=>simp only[bS,u i s a h d hp,zF,hp]
 exact m b.length 0 s p (by omega) N e
def zE {S α:Type} (step:Nat->S->α->S):Nat->S->List α->S
 |_,s,[]=>s
 |i,s,a::as=>zE step (i+1) (step i s a) as
theorem aqa {X Y α S:Type} {f:X->Option (X⊕Y)} (b:List α) (mk:S->Nat->X) (I:Nat->S->Prop) (step:Nat->S->α->S) (fm:S->Y) (p:∀i s a,b[i]? =some a->I i s->f (mk s i)=some (.inl (mk (step i s a) (i+1)))/\I (i+1) (step i s a)) (m:∀s,I b.length s->f (mk s b.length)=some (.inr (fm s))) {s:S} (n:I 0 s) {e:X} (hx:e=mk s 0) {N:Nat} (c:b.length<N): bS N f e=some (fm (zE step 0 s b)):=by subst hx;have j:∀(k:Nat) (i:Nat) (s:S),I i s->i+k=b.length->∀N,k<N->bS N f (mk s i)=some (fm (zE step i s (b.drop i))):=(by intro k;induction k with|zero=>intro i s d q N c;obtain⟨N,rfl⟩:∃M,N=M+1:=⟨N - 1,by omega⟩;have:i=b.length:=(by omega);subst this;simp only[bS,m s d,zbc,zE]|succ k o=>intro i s d q N c;obtain⟨N,rfl⟩:∃M,N=M+1:=⟨N - 1,by omega⟩;obtain⟨a,g⟩:∃a,b[i]? =some a:=⟨_,co (by omega)⟩;rw[drop_cons g];obtain⟨h,l⟩:=p i s a g d;simp only[bS,h,zE];exact o (i+1) _ l (by omega) N (by omega));exact j b.length 0 s n (by omega) N c
theorem Ao {α:Type} {b:List α} {i:Nat} {a:α} (h:b[i]? =some a):cH (i:Int) (aK (aa b))=true:=by have:=(BY.1 h).1;exact dt (by have:=nl b;omega)
theorem o7 {α:Type} (a:List α):cH ((a.length:Nat):Int) (aK (aa a))=false:=eB (by have:=nl a;omega)
theorem Gb {α:Type} {b:List α} {i:Nat} {a:α} (h:b[i]? =some a) (hl:b.length<=9223372036854775807):bt .i64 (i:Int) 1=((i+1:Nat):Int):=by have:=(BY.1 h).1;rw[dZ];omega
theorem Jm {α:Type} {b:List α} {i:Nat} {a:α} (h:b[i]? =some a):i<b.length:=(BY.1 h).1
theorem S7 (n:Int) (axG:0<=n) (axH:n<2^63):IntKind.i64.wrap n=n:=by rw[IntKind.wrap_i64];omega
theorem aj6 {a b:Nat} (d:a<2^63) (c:b<2^63):ub .i64 (a:Int) (b:Int)=((a&&&b:Nat):Int):=(bits_nat .i64 63 (by decide) S7 a b d c).1
theorem asm {a b:Nat} (d:a<2^63) (c:b<2^63):Jx .i64 (a:Int) (b:Int)=((a|||b:Nat):Int):=(bits_nat .i64 63 (by decide) S7 a b d c).2
theorem awg {k:Nat} (b:k<63):Co .i64 1 (k:Int)=some ((2^k:Nat):Int):=by unfold Co;rw[aq (by omega)];congr 1;rw[AT,show min k (IntKind.bits .i64)=k from Nat.min_eq_left (by simp[IntKind.bits];omega),zbs];have:(2:Int)^k=((2^k:Nat):Int):=(by norm_cast);rw[this];refine S7 _ (Int.natCast_nonneg _) ?_;have:=Nat.pow_lt_pow_right (a:=2) (by decide) b;exact_mod_cast this
theorem nU {z:Int} (h:0<=z):∃n:Nat,z=(n:Int):=⟨z.toNat,by omega⟩
theorem uN {α:Type} (n:Nat) (x:α):aa (cJ n x)=n:=by simp[aa,cJ]
theorem mr {n k:Nat} (h:n*k<=fe):jT n k=some ():=ai h
theorem gW (k:Nat):au 0 k=k:=by simp[au]
theorem F9 (a b:Int):jM a b=min a b:=by unfold jM;split<;>omega
theorem aqi (a b:Int):sf a b=max a b:=by unfold sf;split<;>omega
theorem arW (a b:Int):iQ a b= !decide (a=b):=by by_cases h:a=b<;>simp[iQ,h]
def kOk (k:Int):Prop:=0<=k/\k<=1048576
instance (k:Int):Decidable (kOk k):=inferInstanceAs (Decidable (0<=k/\k<=1048576))
theorem agl:de true=false:=rfl
theorem yX {a b:Nat} (h:a=b):lm a b=some ():=ai h
theorem ng {n m:Nat} (h:n=m):aU 0 n m=some ():=by subst h;exact bE n
theorem anw {α:Type} {l:List α} {i:Nat} {a b:α} (h:l[i]? =some a):(l.set i b)[i]? =some b:=zbe (Jm h)
theorem aeq {α:Type} {l:List α} {i:Nat} {a b:α} (h:l[i]? =some a):bL (br l i b) i=some b:=anw h
theorem av8 {α:Type} (l:List α) (i:Nat) (a b:α):br (br l i a) i b=br l i b:=by simp[br,List.set_set]

def ael (r c:Nat) (M:Nat->Nat->Int):U:=(zao (r*c)).map fun n=>M (n/c) (n%c)
def ofD (c:Nat) (l:U):Nat->Nat->Int:=fun i j=>l.getD (i*c+j) 0
theorem atU {a p:Int} (b:0<=a) (hp:0<p):ja a p=some (a%p):=by unfold ja;rw[aq (by omega),zaW b]
theorem aqf {i n:Nat} (h:i<n):cH (i:Int) (n:Int)=true:=dt
theorem F7 {i n:Nat} (h:n<=i):cH (i:Int) (n:Int)=false:=eB
theorem nY {i:Nat} (h:i<=1048577:=by omega):bt .i64 (i:Int) 1=((i+1:Nat):Int):=by rw[dZ];omega
def tC (p:Int):Prop:=2<=p/\p<=1000003
instance (p:Int):Decidable (tC p):=inferInstanceAs (Decidable (2<=p/\p<=1000003))
def v8 (p x:Int):Prop:=0<=x/\x<p
instance (p x:Int):Decidable (v8 p x):=inferInstanceAs (Decidable (0<=x/\x<p))
theorem VC {p:Int} (b:tC p) (a:Int):v8 p (a%p):=⟨zai _ (by have:=b.1;omega),Pd _ (by have:=b.1;omega)⟩
theorem v8.le {p x:Int} (h:v8 p x):0<=x/\x<=p:=⟨h.1,Int.le_of_lt h.2⟩
theorem v8.s {p x:Int} (a:tC p) (h:v8 p x):0<=x/\x<=1000003000000:=⟨h.1,by have:=h.2;have:=a.2;omega⟩
def v7 (p:Int) (r c:Nat) (M:Nat->Nat->Int):Prop:=∀i,i<r->∀j,j<c->v8 p (M i j)
def vp (p:Int) (l:U):Prop:=∀x∈l,v8 p x
instance (p:Int) (l:U):Decidable (vp p l):=inferInstanceAs (Decidable (∀x∈l,v8 p x))
def F8 (x:Int×Int×U):Prop:=(0<=x.1/\x.1<=4096)/\(0<=x.2.1/\x.2.1<=4096)/\(x.2.2.length:Int)=x.1*x.2.1/\x.2.2.length<=1048576
instance (x:Int×Int×U):Decidable (F8 x):=by unfold F8;infer_instance
def oE:Int×Int×Int->Option Bool:=fun((a,b,c):Int×Int×Int)=>some (decide (b<=a/\a<=c))
def T9 (NN:Nat):(Int×(Int×Int))->(Option Bool):=
 (fun(i0,i1,i2)=>
 aA (gZ i1 i0)
 (some (gZ i0 i2))
 (some false))
theorem am9 (x:Int×Int×Int) (y:Bool) (h:oE x=some y):T9 bW x=some y:=by obtain⟨a,b,c⟩:=x;rw[<-h];simp only[oE,T9,gZ];by_cases d:b<=a<;>simp[d,aA]
def wS (n:Int) (i:Nat):Bool:=decide ((i:Int)*i<=n)&&decide (n%(i:Int)=0)
def jA (n:Int):Bool:=decide (2<=n/\n<=1000003)&& !((zaU 2 999).any (wS n))
def CF:Int->Option Bool:=fun(n:Int)=>some (jA n)
def Cy:Int->Option Bool:=fun(n:Int)=>some (jA n)
def DA (m:Int) (v:Int):Bool:=decide (0<=v/\v<m)
def wB (m:Int) (l:U):Bool:=l.all (DA m)
def Et:Int×U->Option Bool:=fun((m,l):Int×U)=>if l.length<=1048576 then some (wB m l) else none
def T0 (NN:Nat):Int->(Option Bool):=
 (fun i0=>
 bN (bS NN (fun(i1,i2)=>
 aA (gZ (ik .i64 i2 i2) i1)
 (aA (gZ i1 (1000003:Int))
 ((ja i1 i2).ae (fun i3=>
 aA (bH i3 (0:Int))
 (some (AI (AI false)))
 (some (wt (i1,bt .i64 i2 1)))))
 (some (AI (wt i1))))
 (some (AI (wt i1))))
 (i0,(2:Int)))
 (fun i4=>
 (oE (i4,(2:Int),(1000003:Int))).ae (fun b5=>
 some b5)))
def Tk (NN:Nat):Int->(Option Bool):=
 (fun i0=>
 aA (cH i0 (2:Int))
 (some false)
 (aA (cH (1000003:Int) i0)
 (some false)
 (bN (bS NN (fun(i1,i2)=>
 aA (gZ (ik .i64 i2 i2) i1)
 ((ja i1 i2).ae (fun i3=>
 aA (bH i3 (0:Int))
 (some (AI (AI false)))
 (some (wt (i1,bt .i64 i2 1)))))
 (some (AI (wt ()))))
 (i0,(2:Int)))
 (fun _=>
 some true))))
def TB (NN:Nat):(Int×U)->(Option Bool):=
 (fun(i0,l1)=>
 bN (bS NN (fun(i2,l3,i4,i5)=>
 aA (cH i5 i4)
 ((cg l3 i5).ae (fun i6=>
 aA (cH i6 (0:Int))
 (some (AI (AI false)))
 (aA (gZ i2 i6)
 (some (AI (AI false)))
 (some (wt (i2,l3,i4,bt .i64 i5 1))))))
 (some (AI (wt ()))))
 (i0,l1,aK (aa l1),(0:Int)))
 (fun _=>
 some true))
theorem rA {a b:Int} (d: -9223372036854775808<=a*b:=by omega) (c:a*b<=9223372036854775807:=by omega):ik .i64 a b=a*b:=S6 d c
theorem N1 {n:Int} {i:Nat} (hn:0<=n:=by omega) (hi:0<i:=by omega):ja n (i:Int)=some (n%(i:Int)):=by unfold ja;rw[aq (by omega),zaW hn]
theorem aaa {i j:Nat} (h:i<=j):(i:Int)*i<=(j:Int)*j:=by have:=zbW h h;exact_mod_cast this
theorem acn {X Y:Type} {f:X->Option (X⊕(Y⊕Bool))} (n:Int) (mk:Nat->X) (r:Y) (hn:n<=1000003)
  (o:∀i:Nat,2<=i->i<=1001->(i:Int)*i<=n->n%(i:Int)=0->f (mk i)=some (.inr (.inr false)))
  (p:∀i:Nat,2<=i->i<=1001->(i:Int)*i<=n->n%(i:Int)≠0->f (mk i)=some (.inl (mk (i+1))))
  (c:∀i:Nat,2<=i->i<=1001->¬(i:Int)*i<=n->f (mk i)=some (.inr (.inl r))) {e:X} (hx:e=mk 2):
  bS bW f e=some (if(zaU 2 999).any (wS n)=true then .inr false else .inl r):=by
 subst hx;have g:∀(d i:Nat),2<=i->i+d=1001->∀N,d<N->bS N f (mk i)=some (if(zaU i d).any (wS n)=true then .inr false else .inl r):=by
  intro d;induction d with
  |zero=>
   intro i b hd N k;obtain⟨N,rfl⟩:∃M,N=M+1:=⟨N - 1,by omega⟩;have:i=1001:=by omega
   subst this;rw[bS,c 1001 (by omega) (by omega) (by omega)];rfl
  |succ d m=>
   intro i b hd N k;obtain⟨N,rfl⟩:∃M,N=M+1:=⟨N - 1,by omega⟩;rw[List.range'_succ,zbw];by_cases a:(i:Int)*i<=n
   ·by_cases hm:n%(i:Int)=0
    ·rw[bS,o i b (by omega) a hm];simp[wS,a,hm]
    ·rw[bS,p i b (by omega) a hm];simp only
     rw[m (i+1) (by omega) (by omega) N (by omega),show wS n i=false by simp[wS,hm],zbX]
   ·rw[bS,c i b (by omega) a];have:(zaU (i+1) d).any (wS n)=false:=by
     rw[zbC];intro j l;have:=(List.mem_range'_1.1 l).1;have:=aaa (show i<=j by omega);simp only[wS,AN,decide_eq_true_eq,not_and];intro h;omega
    simp only
    rw[this];simp[wS,a]
 exact g 999 2 (by omega) (by omega) bW dY
theorem Kk {i:Nat} (h:i<=1001):0<=(i:Int)*i/\(i:Int)*i<=1002001:=by have h1:=aaa h;have h0:=aaa (zca i);omega
theorem am5 (x:Int) (y:Bool) (h:CF x=some y):T0 bW x=some y:=by rw[<-h];simp only[CF,T0];by_cases hx:x<=1000003;(·rw[acn x (fun i=>(x,(i:Int))) x hx ?_ ?_ ?_ ?_];by_cases hd:(zaU 2 999).any (wS x)=true;rw[ai hd,X7,jA,hd];simp;rw[aq hd,ic,jA];simp only[oE,bV];simp[hd];(all_goals try simp only);intro i d a b hm;have c:=Kk a;rw[rA,be (qI b),be (qI hx),N1,bV,be (rN hm)];intro i d a b hm;have c:=Kk a;rw[rA,be (qI b),be (qI hx),N1,bV,aW (qw hm),dZ];rfl;intro i d a b;have c:=Kk a;rw[rA,aW B7];rfl);rw[gd (fun i=>(x,(i:Int)+2)) (r:=wt x) 0 (fun j hj=>by omega) ?_ ?_ dY];rw[ic,jA];simp only[oE,bV];have:¬(2<=x/\x<=1000003):=(by omega);simp[this];simp only;rw[be (qI (by rw[rA];omega)),aW B7];rfl
theorem amz (x:Int) (y:Bool) (h:Cy x=some y):Tk bW x=some y:=by rw[<-h];simp only[Cy,Tk];by_cases b:x<2;rw[be (dt b),jA,decide_eq_false (by omega)];rfl;rw[aW eB];by_cases hx:1000003<x;rw[be (dt hx),jA,decide_eq_false (by omega)];rfl;rw[aW eB];rw[acn x (fun i=>(x,(i:Int))) () (by omega) ?_ ?_ ?_ ?_];have hr:(2<=x/\x<=1000003):=(by omega);by_cases hd:(zaU 2 999).any (wS x)=true;rw[ai hd,X7,jA,hd];simp;rw[aq hd,ic,jA];simp[hd,hr];(all_goals try simp only);intro i b a c hm;have d:=Kk a;rw[rA,be (qI c),N1,bV,be (rN hm)];intro i b a c hm;have d:=Kk a;rw[rA,be (qI c),N1,bV,aW (qw hm),dZ];rfl;intro i b a c;have d:=Kk a;rw[rA,aW B7];rfl
theorem amP (x:Int×U) (y:Bool) (h:Et x=some y):TB bW x=some y:=by obtain⟨m,l⟩:=x;simp only[Et] at h;split at h;(·rename_i hl;rw[<-h];simp only[TB];rw[Jl (mk:=fun i=>(m,l,aK (aa l),(i:Int))) l (DA m) (AI false) (wt ()) ?_ ?_ ?_ ?_ dY];unfold wB;cases l.all (DA m)<;>rfl;(all_goals try simp only);intro i a b c;have c:=of_decide_eq_true c;rw[be (Ao b),dw,b,bV,aW eB,aW B7,Gb b (by omega)];intro i a b c;have c:=of_decide_eq_false c;rw[be (Ao b),dw,b,bV];by_cases d:a<0;rw[be (dt d)];rw[aW eB,be qI];rw[aW (o7 l)];rfl);cases h
theorem oe {m:Int} (h:jA m=true):2<=m/\m<=1000003:=by simp only[jA,AN,decide_eq_true_eq] at h;exact h.1
def fA:U->Int
 |[]=>1
 |x::l=>x*fA l
def EI (oY:Int) (_:Nat) (a x:Int):Int:=min (a*x) (oY+1)
def EH (oY:Int) (l:U):Int:=zE (EI oY) 0 1 l
def awk (x:Int):Bool:=decide (0<=x/\x<=1048576)
def wN:U×Int->Option Int:=fun((l,oY):U×Int)=>if(0<=oY/\oY<=1048576)/\l.length<=1048576/\l.all awk=true then some (EH oY l) else none
def Uo (NN:Nat):(U×Int)->(Option Int):=
 (fun(l0,i1)=>
 bN (bS NN (fun(i2,i3,l4,i5,i6)=>
 aA (cH i6 i5)
 ((cg l4 i6).ae (fun i7=>
 some (wt (i2,jM (ik .i64 i3 i7) (bt .i64 i2 1),l4,i5,bt .i64 i6 1))))
 (some (AI (wt i3))))
 (i1,(1:Int),l0,aK (aa l0),(0:Int)))
 (fun i8=>
 some i8))
theorem YN {a x A B:Int} (c:0<=a) (d:a<=A) (b:0<=x) (e:x<=B):0<=a*x/\a*x<=A*B:= ⟨za5 c b,zay d e b (by omega)⟩
theorem anj (x:U×Int) (y:Int) (h:wN x=some y):Uo bW x=some y:=by obtain⟨l,b⟩:=x;simp only[wN] at h;split at h;(·rename_i e;obtain⟨aeF,hl,d⟩:=e;rw[<-h];simp only[Uo];rw[aqa l (fun(a:Int) i=>(b,a,l,aK (aa l),(i:Int))) (fun _ a=>0<=a/\a<=b+1) (EI b) (fun a=>wt a) ?_ ?_ (s:=1) ⟨by omega,by omega⟩ ?_ dY];rfl;(all_goals try simp only);intro i a x hx f;have c:=of_decide_eq_true (zap.1 d x (IT hx));obtain⟨b1,b2⟩:=YN f.1 (show a<=1048577 by omega) c.1 c.2;rw[be (Ao hx),dw,hx,bV,rA,dZ (a:=b) (by omega) (by omega),F9,Gb hx (by omega)];refine⟨rfl,?_⟩;unfold EI;omega;intro a _;rw[aW (o7 l)];rfl);cases h
theorem JG:∀{l:U},(∀x∈l,1<=x)->1<=fA l
 |[],_=>by simp[fA]
 |x::l,h=>by have b:=h x zaE;have a:=JG (l:=l) (fun x hx=>h x (zaw _ hx));have:=zay b a (by omega) (by omega);simpa[fA] using this
theorem O0 {b:Int} (d:0<=b):∀(l:U) (i:Nat) (a:Int),(∀x∈l,1<=x)->1<=a->a<=b+1->zE (EI b) i a l=min (a*fA l) (b+1)
 |[],i,a,_,_,h2=>by simp only[zE,fA,zbO];omega
 |x::l,i,a,h,h1,h2=>by have hx:=h x zaE;have f:=JG (l:=l) (fun x hx=>h x (zaw _ hx));have Mj:=zay h1 hx (by omega) (by omega);rw[zE,O0 d l (i+1) _ (fun x hx=>h x (zaw _ hx)) (by unfold EI;omega) (by unfold EI;omega),fA,<-zaT];unfold EI;generalize a*x=c at*;by_cases g:c<=b+1;rw[zbP g];have e:min c (b+1)=b+1:=(by omega);rw[e];have k1:=zak f (show 0<=b+1 by omega);have k2:=zak f (show 0<=c by omega);omega
def aX (l:U) (v:Int):Nat:=l.findIdx fun a=>decide (a=v)
def mO (l:U) (v:Int):Int:=if aX l v<l.length then(aX l v:Int) else -1
def xQ:U×Int->Option Int:=fun(x:U×Int)=>if x.1.length<=1048576 then some (mO x.1 x.2) else none
def tV:U×Int->Option Bool:=fun(x:U×Int)=>if x.1.length<=1048576 then some (decide (x.2∈x.1)) else none
def Ho (L D:U) (j:Nat):Prop:=(0<=L.getD j 0/\L.getD j 0<=99)/\(1<=D.getD j 0/\D.getD j 0<=8)/\L.getD j 0∉L.take j
instance (L D:U) (j:Nat):Decidable (Ho L D j):=by unfold Ho;infer_instance
def mh (L D:U):Bool:=decide (L.length<=12)&&(decide (L.length=D.length)&&decide (∀j,j<L.length->Ho L D j))
def fF (L D:U):Int:=if mh L D=true/\fA D<=4096 then fA D else -1
def G7:U×U->Option Bool:=fun(x:U×U)=>if x.1.length<=1048576/\x.2.length<=1048576 then some (mh x.1 x.2) else none
def ze:U×U×U->Option Int:=fun(x:U×U×U)=>if x.1.length<=1048576/\x.2.1.length<=1048576 then some (fF x.1 x.2.1) else none
def tU:U×U×U->Option Int:=ze
def Hw (m:Int) (D:U) (R:List U) (j:Nat):Prop:=((R.getD j []).length:Int)=D.getD j 0/\wB m (R.getD j [])=true
instance (m:Int) (D:U) (R:List U) (j:Nat):Decidable (Hw m D R j):=by unfold Hw;infer_instance
def jQ (x:(U×U×U)×Int×List U):Bool:=
 decide (0<=fF x.1.1 x.1.2.1)&&(decide (1<=x.2.1/\x.2.1<=12)&&(decide (x.2.2.length=x.1.2.1.length)&&decide (∀j,j<x.2.2.length->Hw x.2.1 x.1.2.1 x.2.2 j)))
def Hv (x:(U×U×U)×Int×List U):Prop:=(x.1.1.length<=1048576/\x.1.2.1.length<=1048576)/\x.2.2.length<=1048576/\∀l∈x.2.2,l.length<=1048576
instance (x:(U×U×U)×Int×List U):Decidable (Hv x):=by unfold Hv;infer_instance
def CE:(U×U×U)×Int×List U->Option Bool:=fun(x:(U×U×U)×Int×List U)=>if Hv x then some (jQ x) else none
def wJ:(U×U×U)×Int×List U->Option Bool:=CE
def Uk (NN:Nat):(U×Int)->(Option Int):=
 (fun(l0,i1)=>
 bN (bS NN (fun(i2,l3,i4,i5)=>
 aA (cH i5 i4)
 ((cg l3 i5).ae (fun i6=>
 aA (bH i6 i2)
 (some (AI (AI i5)))
 (some (wt (i2,l3,i4,bt .i64 i5 1)))))
 (some (AI (wt ()))))
 (i1,l0,aK (aa l0),(0:Int)))
 (fun _=>
 some ((-1:Int))))
def Ug (NN:Nat):(U×U)->(Option Bool):=
 (fun(l0,l1)=>
 aA (cH (12:Int) (aK (aa l0)))
 (some false)
 (aA (iQ (aK (aa l0)) (aK (aa l1)))
 (some false)
 (bN (bS NN (fun(l2,l3,l4,i5,i6)=>
 aA (cH i6 i5)
 ((cg l4 i6).ae (fun i7=>
 (oE (i7,(0:Int),(99:Int))).ae (fun b8=>
 aA (de b8)
 (some (AI (AI false)))
 ((cg l3 i6).ae (fun i9=>
 (oE (i9,(1:Int),(8:Int))).ae (fun pR=>
 aA (de pR)
 (some (AI (AI false)))
 ((jP (0:Int) i6 (aa l2)).ae (fun(oS,rp)=>
 (xQ (fE l2 oS rp,i7)).ae (fun ft=>
 aA (gZ (0:Int) ft)
 (some (AI (AI false)))
 (some (wt (l2,l3,l4,i5,bt .i64 i6 1))))))))))))
 (some (AI (wt ()))))
 (l0,l1,l0,aK (aa l0),(0:Int)))
 (fun _=>
 some true))))
def T6 (NN:Nat):(U×(U×U))->(Option Int):=
 (fun(l0,l1,l2)=>
 (G7 (l0,l1)).ae (fun b3=>
 aA (de b3)
 (some ((-1:Int)))
 ((wN (l1,(4096:Int))).ae (fun i4=>
 aA (cH (4096:Int) i4)
 (some ((-1:Int)))
 (some i4)))))
def TY (NN:Nat):((U×(U×U))×(Int×(List U)))->(Option Bool):=
 (fun((l0,l1,l2),i3,l4)=>
 (ze (l0,l1,l2)).ae (fun i5=>
 aA (cH i5 (0:Int))
 (some false)
 ((oE (i3,(1:Int),(12:Int))).ae (fun b6=>
 aA (de b6)
 (some false)
 (aA (iQ (aK (aa l4)) (aK (aa l1)))
 (some false)
 (bN (bS NN (fun((l7,i8,i9),gM,ed)=>
 aA (cH i9 i8)
 (bN ((cg l7 i9).ae (fun eA=>
 (cg ed i9).ae (fun eY=>
 aA (iQ (aK (aa eY)) eA)
 (some (AI (AI (AI false))))
 ((cg ed i9).ae (fun dh=>
 bS NN (fun((dH,fV,gN,fN,gD,eO),ga,ef)=>
 aA (cH eO gD)
 ((cg fN eO).ae (fun gv=>
 (oE (gv,(0:Int),lv .i64 ga 1)).ae (fun UO=>
 aA (de UO)
 (some (AI (AI (AI (AI false)))))
 (some (wt ((dH,fV,gN,fN,gD,bt .i64 eO 1),ga,ef))))))
 (some (AI (wt ((gN,dH,fV),ga,ef)))))
 ((l7,i8,i9,dh,aK (aa dh),(0:Int)),gM,ed))))))
 (fun((jo,fO,iF),iT,dW)=>
 some (wt ((fO,iF,bt .i64 jo 1),iT,dW))))
 (some (AI (wt ()))))
 ((l1,aK (aa l1),(0:Int)),i3,l4))
 (fun _=>
 some true)))))))
def TA (NN:Nat):(U×Int)->(Option Bool):=
 (fun(l0,i1)=>
 bN (bS NN (fun(i2,l3,i4,i5)=>
 aA (cH i5 i4)
 ((cg l3 i5).ae (fun i6=>
 aA (bH i2 i6)
 (some (AI (AI true)))
 (some (wt (i2,l3,i4,bt .i64 i5 1)))))
 (some (AI (wt ()))))
 (i1,l0,aK (aa l0),(0:Int)))
 (fun _=>
 some false))
def Tp (NN:Nat):(U×(U×U))->(Option Int):=
 (fun(l0,l1,l2)=>
 aA (cH (12:Int) (aK (aa l0)))
 (some ((-1:Int)))
 (aA (iQ (aK (aa l0)) (aK (aa l1)))
 (some ((-1:Int)))
 (bN (bS NN (fun((i3,l4,i5,i6),l7,l8,l9)=>
 aA (cH i6 i5)
 ((cg l4 i6).ae (fun gM=>
 aA (cH gM (0:Int))
 (some (AI (AI ((-1:Int)))))
 (aA (cH (99:Int) gM)
 (some (AI (AI ((-1:Int)))))
 ((jP (0:Int) i6 (aa l7)).ae (fun(oS,rp)=>
 (tV (fE l7 oS rp,gM)).ae (fun Ll=>
 aA (Ll)
 (some (AI (AI ((-1:Int)))))
 ((cg l8 i6).ae (fun f0=>
 aA (cH f0 (1:Int))
 (some (AI (AI ((-1:Int)))))
 (aA (cH (8:Int) f0)
 (some (AI (AI ((-1:Int)))))
 (aA (cH (4096:Int) (ik .i64 i3 f0))
 (some (AI (AI ((-1:Int)))))
 (some (wt ((ik .i64 i3 f0,l4,i5,bt .i64 i6 1),l7,l8,l9)))))))))))))
 (some (AI (wt i3))))
 (((1:Int),l0,aK (aa l0),(0:Int)),l0,l1,l2))
 (fun jz=>
 some jz))))
def Tg (NN:Nat):((U×(U×U))×(Int×(List U)))->(Option Bool):=
 (fun((l0,l1,l2),i3,l4)=>
 (tU (l0,l1,l2)).ae (fun i5=>
 aA (bH i5 ((-1:Int)))
 (some false)
 (aA (cH i3 (1:Int))
 (some false)
 (aA (cH (12:Int) i3)
 (some false)
 (aA (iQ (aK (aa l4)) (aK (aa l1)))
 (some false)
 (bN (bS NN (fun((l6,i7,i8),(l9,cP,ed),eA,eY)=>
 aA (cH i8 i7)
 ((cg l6 i8).ae (fun dh=>
 (cg cP i8).ae (fun jz=>
 aA (iQ (aK (aa dh)) jz)
 (some (AI (AI false)))
 ((Et (eA,dh)).ae (fun b16=>
 aA (de b16)
 (some (AI (AI false)))
 (some (wt ((l6,i7,bt .i64 i8 1),(l9,cP,ed),eA,eY))))))))
 (some (AI (wt ()))))
 ((l4,aK (aa l4),(0:Int)),(l0,l1,l2),i3,l4))
 (fun _=>
 some true)))))))
theorem GG (P:Nat->Prop) [DecidablePred P]:∀c:Nat,∃n,n<=c/\(∀j,j<n->P j)/\(n=c\/¬P n)
 |0=>⟨0,OF 0,fun j d=>absurd d (zbQ j),.inl rfl⟩
 |c+1=>by obtain⟨n,h1,b,a⟩:=GG P c;by_cases h:P n;rcases a with a|a;subst a;refine⟨n+1,OF _,fun j d=>?_,.inl rfl⟩;by_cases e:j=n;subst e;exact h;exact b j (by omega);exact absurd h a;exact⟨n,by omega,b,.inr h⟩
theorem getD_some {α:Type} {l:List α} {j:Nat} (d:α) (h:j<l.length):l[j]? =some (l.getD j d):=by simp[zb2,h]
theorem uP {α:Type} {l:List α} {j:Nat} (h:j<l.length):cH (j:Int) (aK (aa l))=true:=aqf h
theorem Gm {l:U} {v:Int} {j:Nat} (h:j<aX l v):l[j]? ≠some v:=by intro e;have a:j<l.length:=(BY.1 e).1;have:=List.not_of_lt_findIdx h;rw[co a] at e;simp[zbl e] at this
theorem Gl {l:U} {v:Int} (h:aX l v<l.length):l[aX l v]? =some v:=by have:=List.findIdx_getElem (w:=h);rw[co h];exact congrArg some (of_decide_eq_true this)
theorem JF (l:U) (v:Int):aX l v<=l.length:=List.findIdx_le_length
theorem VO (l:U) (v:Int):gZ 0 (mO l v)=decide (v∈l):=by unfold mO gZ;by_cases h:aX l v<l.length;rw[ai h,decide_eq_true (by omega),decide_eq_true];exact IT (Gl h);rw[aq h,decide_eq_false (by omega),decide_eq_false];intro hm;obtain⟨i,a,e⟩:=zaP.1 hm;have:=JF l v;exact Gm (show i<aX l v by omega) (by rw[co a,e])
theorem anh (x:U×Int) (y:Int) (h:xQ x=some y):Uk bW x=some y:=by
 obtain⟨l,v⟩:=x;simp only[xQ] at h;split at h
 ·rename_i hl;rw[<-h];simp only[Uk];have hp:=JF l v;rw[gd (fun i=>(v,l,aK (aa l),(i:Int))) (r:=if aX l v<l.length then AI (aX l v:Int) else wt ()) (aX l v) ?_ ?_ ?_ dY]
  ·unfold mO;by_cases h:aX l v<l.length
   ·rw[ai h,ai h];rfl
   ·rw[aq h,aq h];rfl
  ·intro j b;simp only
   have a:j<l.length:=by omega
   rw[be (uP a),dw,getD_some 0 a,bV,aW (qw (fun e=>Gm b (by rw[getD_some 0 a,e])))];simp only[nY (show j<=1048577 by omega)]
  ·simp only
   by_cases h:aX l v<l.length
   ·rw[ai h,be (uP h),dw,Gl h,bV,be (rN rfl)]
   ·rw[aq h,aW (show cH _ (aK (aa l))=false from F7 (by show l.length<=_;omega))]
  ·rfl
 ·cases h
theorem amO (x:U×Int) (y:Bool) (h:tV x=some y):TA bW x=some y:=by
 obtain⟨l,v⟩:=x;simp only[tV] at h;split at h
 ·rename_i hl;rw[<-h];simp only[TA];have hp:=JF l v;rw[gd (fun i=>(v,l,aK (aa l),(i:Int))) (r:=if aX l v<l.length then AI true else wt ()) (aX l v) ?_ ?_ ?_ dY]
  ·rw[<-VO l v];unfold mO gZ;by_cases h:aX l v<l.length
   ·rw[ai h,ai h,decide_eq_true (by omega)];rfl
   ·rw[aq h,aq h];rfl
  ·intro j b;simp only
   have a:j<l.length:=by omega
   rw[be (uP a),dw,getD_some 0 a,bV,aW (qw (fun e=>Gm b (by rw[getD_some 0 a,e])))];simp only[nY (show j<=1048577 by omega)]
  ·simp only
   by_cases h:aX l v<l.length
   ·rw[ai h,be (uP h),dw,Gl h,bV,be (rN rfl)]
   ·rw[aq h,aW (show cH _ (aK (aa l))=false from F7 (by show l.length<=_;omega))]
  ·rfl
 ·cases h
theorem Sj {n m:Nat} (h:n<=m):jP 0 (n:Int) m=some (0,n):=by unfold jP;rw[ai ⟨by omega,by omega,by omega⟩];simp
theorem Si (l:U) (n:Nat):fE l 0 n=l.take n:=rfl
theorem anf (x:U×U) (y:Bool) (h:G7 x=some y):Ug bW x=some y:=by
 obtain⟨L,D⟩:=x;simp only[G7] at h;split at h
 ·rename_i hl;rw[<-h];simp only[Ug,mh];by_cases g:L.length<=12
  rotate_left
  ·rw[be (dt (by rw[nl];omega)),decide_eq_false g];rfl
  rw[aW (eB (by rw[nl];omega)),decide_eq_true g,zaf];by_cases l:L.length=D.length
  rotate_left
  ·rw[be (xy (by rw[nl,nl];omega)),decide_eq_false l];rfl
  rw[aW (rB (by rw[nl,nl];omega)),decide_eq_true l,zaf];obtain⟨n,hn,d,e⟩:=GG (Ho L D) L.length;rw[gd (fun i=>(L,D,L,aK (aa L),(i:Int))) (r:=if n<L.length then AI false else wt ()) n ?_ ?_ ?_ dY]
  ·by_cases h:n<L.length
   ·rw[ai h,decide_eq_false (fun q=>(e.resolve_left (by omega)) (q n h))];rfl
   ·rw[aq h,decide_eq_true (fun j f=>d j (by omega))];rfl
  ·intro j f;simp only
   obtain⟨b,a,c⟩:=d j f;have k:j<L.length:=by omega
   rw[be (uP k),dw,getD_some 0 k,bV];simp only[oE,bV];rw[aW (Gd b),dw,getD_some 0 (show j<D.length by omega),bV];rw[aW (Gd a),Sj (show j<=aa L by show j<=L.length;omega),bV];simp only[Si];rw[show xQ (L.take j,L.getD j 0)=some (mO (L.take j) (L.getD j 0)) from ai (by rw[zaa];omega),bV,VO,aW (decide_eq_false c)]
   simp only[nY (show j<=1048577 by omega)]
  ·simp only
   by_cases h:n<L.length
   ·have m:=e.resolve_left (by omega);rw[ai h,be (uP h),dw,getD_some 0 h,bV];simp only[oE,bV];by_cases b:0<=L.getD n 0/\L.getD n 0<=99
    rotate_left
    ·rw[be (NP b)]
    rw[aW (Gd b),dw,getD_some 0 (show n<D.length by omega),bV];by_cases a:1<=D.getD n 0/\D.getD n 0<=8
    rotate_left
    ·rw[be (NP a)]
    rw[aW (Gd a),Sj (show n<=aa L by show n<=L.length;omega),bV];simp only[Si];rw[show xQ (L.take n,L.getD n 0)=some (mO (L.take n) (L.getD n 0)) from ai (by rw[zaa];omega),bV,VO]
    by_cases c:L.getD n 0∈L.take n
    ·rw[be (decide_eq_true c)]
    ·exact absurd ⟨b,a,c⟩ m
   ·rw[aq h,aW (show cH _ (aK (aa L))=false from F7 (by show L.length<=_;omega))]
  ·rfl
 ·cases h
theorem ku {L D:U} (h:mh L D=true):L.length<=12/\L.length=D.length/\∀j,j<L.length->Ho L D j:=by simp only[mh,AN,decide_eq_true_eq] at h;exact h
theorem rJ {L D:U} (h:mh L D=true):∀x∈D,1<=x/\x<=8:=by obtain⟨_,h2,c⟩:=ku h;intro x hx;obtain⟨i,a,e⟩:=zaP.1 hx;have:=(c i (by omega)).2.1;have b:=getD_some 0 a;rw[co a,e] at b;rw[<-zbl b] at this;exact this
theorem am8 (x:U×U×U) (y:Int) (h:ze x=some y):T6 bW x=some y:=by obtain⟨L,D,T⟩:=x;simp only[ze] at h;split at h;rename_i hl;rw[<-h];simp only[T6,fF];rw[show G7 (L,D)=some (mh L D) from ai hl,bV];(cases hx:mh L D with|false=>simp[aA,de]|true=>have hd:=rJ hx;have h1:∀x∈D,1<=x:=fun x hx=>(hd x hx).1;rw[aW (by rfl),show wN (D,4096)=some (EH 4096 D) from ai ⟨by omega,hl.2,zap.2 fun x hx=>decide_eq_true (by have:=hd x hx;omega)⟩,bV];unfold EH;rw[O0 (by omega) D 0 1 h1 (by omega) (by omega),zbs];by_cases hp:fA D<=4096;rw[aW eB,ai ⟨rfl,hp⟩,show min (fA D) (4096+1)=fA D by omega];rw[be dt,aq (fun q=>hp q.2)]);cases h
theorem agW:∀(l:U) (x:Int),fA (l++[x])=fA l*x
 |[],x=>by simp[fA]
 |a::l,x=>by simp[fA,agW l x,zaT]
theorem agV:∀(l m:U),fA (l++m)=fA l*fA m
 |[],m=>by simp[fA]
 |a::l,m=>by simp[fA,agV l m,zaT]
theorem awN {D:U} {j:Nat} (h:j<D.length):D.take (j+1)=D.take j++[D.getD j 0]:=by rw[zbD,getD_some 0 h];rfl
theorem JH {D:U} {j:Nat} (h:j<D.length):fA (D.take (j+1))=fA (D.take j)*D.getD j 0:=by rw[awN h,agW]
theorem atu {D:U} (h:∀x∈D,1<=x) (j:Nat):fA (D.take j)<=fA D:=by
 have e:fA D=fA (D.take j)*fA (D.drop j):=by rw[<-agV,List.take_append_drop]
 have h1:=JG (l:=D.take j) fun x hx=>h x (zaQ hx);have a:=JG (l:=D.drop j) fun x hx=>h x (zaR hx);have:=zak a (show 0<=fA (D.take j) by omega);rw[e];omega
def UI (L D:U) (j:Nat):Prop:=Ho L D j/\fA (D.take (j+1))<=4096
instance (L D:U) (j:Nat):Decidable (UI L D j):=by unfold UI;infer_instance
theorem amD (x:U×U×U) (y:Int) (h:tU x=some y):Tp bW x=some y:=by
 obtain⟨L,D,T⟩:=x;simp only[tU,ze] at h;split at h
 ·rename_i hl;rw[<-h];simp only[Tp,fF];by_cases s:L.length<=12
  rotate_left
  ·rw[be (dt (by rw[nl];omega)),aq (fun q=>s (ku q.1).1)]
  rw[aW (eB (by rw[nl];omega))];by_cases f:L.length=D.length
  rotate_left
  ·rw[be (xy (by rw[nl,nl];omega)),aq (fun q=>f (ku q.1).2.1)]
  rw[aW (rB (by rw[nl,nl];omega))];obtain⟨n,hn,d,m⟩:=GG (UI L D) L.length;have g:∀j,j<=n->1<=fA (D.take j)/\fA (D.take j)<=4096:=by
   intro j l;constructor
   ·apply JG;intro x hx;obtain⟨i,F,e⟩:=zaP.1 hx;rw[zaa] at F;have b:=(d i (by omega)).1.2.1;have o:=getD_some 0 (show i<D.length by omega);rw[List.getElem_take] at e;rw[co (by omega),e] at o;rw[<-zbl o] at b;exact b.1
   ·cases j with
    |zero=>simp[fA]
    |succ j=>exact(d j (by omega)).2
  rw[gd (fun i=>((fA (D.take i),L,aK (aa L),(i:Int)),L,D,T)) (r:=if n<L.length then AI (-1) else wt (fA D)) n ?_ ?_ ?_ dY]
  ·by_cases h:n<L.length
   ·rw[ai h,aq]
    ·rfl
    ·intro q;refine m.resolve_left (by omega) ⟨(ku q.1).2.2 n h,?_⟩;have:=atu (fun x hx=>(rJ q.1 x hx).1) (n+1);have:=q.2;omega
   ·have e:n=L.length:=by omega
    have b:=(g n (OF n)).2;rw[e,f,zaO] at b;rw[aq h,ai]
    ·rfl
    ·refine⟨?_,b⟩;simp only[mh,AN,decide_eq_true_eq];exact⟨s,f,fun j l=>(d j (by omega)).1⟩
  ·intro j l;simp only
   obtain⟨⟨a1,v,c⟩,p⟩:=d j l;have t:j<L.length:=by omega
   rw[be (uP t),dw,getD_some 0 t,bV,aW eB,aW eB,Sj (show j<=aa L by show j<=L.length;omega),bV];simp only[Si];rw[show tV (L.take j,L.getD j 0)=some (decide (L.getD j 0∈L.take j)) from ai (by rw[zaa];omega),bV,aW (decide_eq_false c),dw,getD_some 0 (show j<D.length by omega),bV,aW eB,aW eB]
   have k:=g j (by omega);obtain⟨w,G⟩:=YN (a:=fA (D.take j)) (x:=D.getD j 0) (A:=4096) (B:=8) (by omega) k.2 (by omega) v.2;rw[JH (by omega)] at p;rw[rA,aW (eB p),<-JH (by omega)];simp only[nY (show j<=1048577 by omega)]
  ·simp only
   by_cases h:n<L.length
   ·have I:=m.resolve_left (by omega);rw[ai h,be (uP h),dw,getD_some 0 h,bV];by_cases u:L.getD n 0<0
    ·rw[be (dt u)]
    rw[aW eB];by_cases C:99<L.getD n 0
    ·rw[be (dt C)]
    rw[aW eB,Sj (show n<=aa L by show n<=L.length;omega),bV];simp only[Si];rw[show tV (L.take n,L.getD n 0)=some (decide (L.getD n 0∈L.take n)) from ai (by rw[zaa];omega),bV]
    by_cases c:L.getD n 0∈L.take n
    ·rw[be (decide_eq_true c)]
    rw[aW (decide_eq_false c),dw,getD_some 0 (show n<D.length by omega),bV];by_cases H:D.getD n 0<1
    ·rw[be (dt H)]
    rw[aW eB];by_cases E:8<D.getD n 0
    ·rw[be (dt E)]
    rw[aW eB];have k:=g n (OF n);obtain⟨w,G⟩:=YN (a:=fA (D.take n)) (x:=D.getD n 0) (A:=4096) (B:=8) (by omega) k.2 (by omega) (by omega);rw[rA];by_cases z:4096<fA (D.take n)*D.getD n 0
    ·rw[be (dt z)]
    ·exact absurd ⟨⟨⟨by omega,by omega⟩,⟨by omega,by omega⟩,c⟩,by rw[JH (by omega)];omega⟩ I
   ·have e:n=L.length:=by omega
    rw[aq h,aW (show cH _ (aK (aa L))=false from F7 (by show L.length<=_;omega)),e,f,zaO]
  ·rfl
 ·cases h
theorem RE {R:List U} (h:∀l∈R,l.length<=1048576) {j:Nat} (a:j<R.length):(R.getD j []).length<=1048576:=by have e:=getD_some [] a;exact h _ (IT e)
theorem am3 (x:(U×U×U)×Int×List U) (y:Bool) (h:CE x=some y):TY bW x=some y:=by
 obtain⟨⟨L,D,T⟩,m,R⟩:=x;simp only[CE] at h;split at h
 ·rename_i hl;obtain⟨u,w,k⟩:=hl;simp only at u w k;rw[<-h];simp only[TY,jQ];rw[show ze (L,D,T)=some (fF L D) from ai u,bV]
  by_cases t:0<=fF L D
  rotate_left
  ·rw[be dt,decide_eq_false t];rfl
  rw[aW eB,decide_eq_true t,zaf];simp only[oE,bV];by_cases f:1<=m/\m<=12
  rotate_left
  ·rw[be (NP f),decide_eq_false f];rfl
  rw[aW (Gd f),decide_eq_true f,zaf];by_cases p:R.length=D.length
  rotate_left
  ·rw[be (xy (by rw[nl,nl];omega)),decide_eq_false p];rfl
  rw[aW (rB (by rw[nl,nl];omega)),decide_eq_true p,zaf];obtain⟨n,hn,l,o⟩:=GG (Hw m D R) R.length;rw[gd (fun i=>((D,aK (aa D),(i:Int)),m,R)) (r:=if n<R.length then AI false else wt ()) n ?_ ?_ ?_ dY]
  ·by_cases h:n<R.length
   ·rw[ai h,decide_eq_false (fun q=>(o.resolve_left (by omega)) (q n h))];rfl
   ·rw[aq h,decide_eq_true (fun j s=>l j (by omega))];rfl
  ·intro j s;simp only
   obtain⟨e,g⟩:=l j s;have v:j<R.length:=by omega
   have d:j<D.length:=by omega
   have hr:=RE k v;rw[be (uP d),dw,dw,getD_some 0 d,getD_some [] v,bV,bV,aW (rB (by rw[nl];exact e)),bV];rw[Jl (mk:=fun i=>((D,aK (aa D),(j:Int),R.getD j [],aK (aa (R.getD j [])),(i:Int)),m,R)) (R.getD j []) (DA m) (AI (AI (AI false))) (wt (((j:Int),D,aK (aa D)),m,R)) ?_ ?_ ?_ ?_ dY]
   ·rw[ai (show(R.getD j []).all (DA m)=true from g),ic]
    simp only[nY (show j<=1048577 by omega)]
   all_goals try simp only
   ·intro i a b c;have c:=of_decide_eq_true c;rw[be (Ao b),dw,b,bV,rF,aW (Gd (by omega)),Gb b (by omega)]
   ·intro i a b c;have c:=of_decide_eq_false c;rw[be (Ao b),dw,b,bV,rF,be (NP (by omega))]
   ·rw[aW (o7 _)]
   ·rfl
  ·simp only
   by_cases h:n<R.length
   ·have z:=o.resolve_left (by omega);have d:n<D.length:=by omega
    have hr:=RE k h;rw[ai h,be (uP d),dw,dw,getD_some 0 d,getD_some [] h,bV,bV];by_cases e:((R.getD n []).length:Int)=D.getD n 0
    rotate_left
    ·rw[be (xy (by rw[nl];exact e))];rfl
    rw[aW (rB (by rw[nl];exact e)),bV];have g:wB m (R.getD n [])≠true:=fun q=>z ⟨e,q⟩;rw[Jl (mk:=fun i=>((D,aK (aa D),(n:Int),R.getD n [],aK (aa (R.getD n [])),(i:Int)),m,R)) (R.getD n []) (DA m) (AI (AI (AI false))) (wt (((n:Int),D,aK (aa D)),m,R)) ?_ ?_ ?_ ?_ dY]
    ·rw[aq (show¬(R.getD n []).all (DA m)=true from g)]
     rfl
    all_goals try simp only
    ·intro i a b c;have c:=of_decide_eq_true c;rw[be (Ao b),dw,b,bV,rF,aW (Gd (by omega)),Gb b (by omega)]
    ·intro i a b c;have c:=of_decide_eq_false c;rw[be (Ao b),dw,b,bV,rF,be (NP (by omega))]
    ·rw[aW (o7 _)]
    ·rfl
   ·rw[aq h,aW (show cH _ (aK (aa D))=false from F7 (by show D.length<=_;omega))]
  ·rfl
 ·cases h
theorem amw (x:(U×U×U)×Int×List U) (y:Bool) (h:wJ x=some y):Tg bW x=some y:=by
 obtain⟨⟨L,D,T⟩,m,R⟩:=x;simp only[wJ,CE] at h;split at h
 ·rename_i hl;obtain⟨s,v,e⟩:=hl;simp only at s v e;rw[<-h];simp only[Tg,jQ];rw[show tU (L,D,T)=some (fF L D) from ai s,bV]
  have s9:fF L D= -1\/0<=fF L D:=by
   unfold fF;by_cases q:mh L D=true/\fA D<=4096
   ·rw[ai q];have:=JG fun x hx=>(rJ q.1 x hx).1;right;omega
   ·rw[aq q];left;rfl
  by_cases o:0<=fF L D
  rotate_left
  ·rw[be (rN (by omega)),decide_eq_false o];rfl
  rw[aW qw,decide_eq_true o,zaf];by_cases u:1<=m
  rotate_left
  ·rw[be dt,decide_eq_false (p:=1<=m/\m<=12) (by omega)];rfl
  rw[aW eB];by_cases t:m<=12
  rotate_left
  ·rw[be dt,decide_eq_false (p:=1<=m/\m<=12) (by omega)];rfl
  rw[aW eB,decide_eq_true (p:=1<=m/\m<=12) ⟨u,t⟩,zaf];by_cases k:R.length=D.length
  rotate_left
  ·rw[be (xy (by rw[nl,nl];omega)),decide_eq_false k];rfl
  rw[aW (rB (by rw[nl,nl];omega)),decide_eq_true k,zaf];obtain⟨n,hn,f,g⟩:=GG (Hw m D R) R.length;rw[gd (fun i=>((R,aK (aa R),(i:Int)),(L,D,T),m,R)) (r:=if n<R.length then AI false else wt ()) n ?_ ?_ ?_ dY]
  ·by_cases h:n<R.length
   ·rw[ai h,decide_eq_false (fun q=>(g.resolve_left (by omega)) (q n h))];rfl
   ·rw[aq h,decide_eq_true (fun j l=>f j (by omega))];rfl
  ·intro j l;simp only
   obtain⟨a,c⟩:=f j l;have d:j<R.length:=by omega
   have b:j<D.length:=by omega
   have hr:=RE e d;rw[be (uP d),dw,dw,getD_some 0 b,getD_some [] d,bV,bV,aW (rB (by rw[nl];exact a)),show Et (m,R.getD j [])=some (wB m (R.getD j [])) from ai hr,bV,c,aW (by rfl)]
   simp only[nY (show j<=1048577 by omega)]
  ·simp only
   by_cases h:n<R.length
   ·have w:=g.resolve_left (by omega);have b:n<D.length:=by omega
    have hr:=RE e h;rw[ai h,be (uP h),dw,dw,getD_some 0 b,getD_some [] h,bV,bV];by_cases a:((R.getD n []).length:Int)=D.getD n 0
    rotate_left
    ·rw[be (xy (by rw[nl];exact a))]
    rw[aW (rB (by rw[nl];exact a))];have c:wB m (R.getD n [])=false:=by
     cases q:wB m (R.getD n []) with
     |false=>rfl
     |true=>exact absurd ⟨a,q⟩ w
    rw[show Et (m,R.getD n [])=some (wB m (R.getD n [])) from ai hr,bV,c,be (by rfl)]
   ·rw[aq h,aW (show cH _ (aK (aa R))=false from F7 (by show R.length<=_;omega))]
  ·rfl
 ·cases h
theorem aqc {X Y α S:Type} {f:X->Option (X⊕Y)} (c:List α) (mk:S->Nat->X) (I:Nat->S->Prop) (step:Nat->S->α->Option S) (h:Y) (fm:S->Y) (k:∀i s a,c[i]? =some a->I i s->f (mk s i)=some (match step i s a with|some b=>.inl (mk b (i+1))|none=>.inr h)) (n:∀i s a b,c[i]? =some a->I i s->step i s a=some b->I (i+1) b) (m:∀s,I c.length s->f (mk s c.length)=some (.inr (fm s))) {s:S} (o:I 0 s) {j:X} (hx:j=mk s 0) {N:Nat} (l:c.length<N): bS N f j=some (match zF step 0 s c with|some b=>fm b|none=>h):= aqb c mk I step h fm (fun i s a b g d e=>⟨by rw[k i s a g d,e],n i s a b g d e⟩) (fun i s a g d e=>by rw[k i s a g d,e]) m o hx l
def agh (x:Int×Int):Prop:=(0<=x.1/\x.1<=4096)/\(0<=x.2/\x.2<=4096)/\x.1*x.2<=1048576
instance (x:Int×Int):Decidable (agh x):=by unfold agh;infer_instance
def ve (M:Nat->Nat->Int) (a b:Nat):Nat->Nat->Int:=fun i j=>if i=a then M b j else if i=b then M a j else M i j
def Cb (M:Nat->Nat->Int) (j:Nat):Nat->Nat->Option Nat
 |0,_=>none
 |d+1,k=>if M k j=0 then Cb M j d (k+1) else some k
def Aa (p out x:Int) (n:Nat):Int:=if h:n=0 then out else Aa p (if n%2=1 then out*x%p else out) (x*x%p) (n/2)
termination_by n
decreasing_by omega
def t6:U->Option U:=fun(l:U)=>if l.length<=1099511627776 then some l else none
def pP:U->Option U:=fun(l:U)=>if l.length<=1099511627776 then some l else none
def aga (x:Int×(Int×Int×U)×(Int×Int×U)):Prop:=tC x.1/\F8 x.2.1/\F8 x.2.2/\x.2.1.2.1=x.2.2.1/\x.2.1.1*x.2.2.2.1<=1048576/\vp x.1 x.2.1.2.2/\vp x.1 x.2.2.2.2
instance (x:Int×(Int×Int×U)×(Int×Int×U)):Decidable (aga x):=by unfold aga;infer_instance
def Um (NN:Nat):U->(Option U):=
 (fun l0=>
 (aU 0 0 (aa (([]:U)))).ae (fun _=>
 (jT (au (aa (([]:U))) (aa l0)) 8).ae (fun _=>
 (dO (ci (([]:U)) l0) (au (aa (([]:U))) (aa l0))).ae (fun l1=>
 some l1))))
def Tu (NN:Nat):U->(Option U):=
 (fun l0=>
 (jT (au (aa (([]:U))) (aa l0)) 8).ae (fun _=>
 (dO (ci (([]:U)) l0) (au (aa (([]:U))) (aa l0))).ae (fun l1=>
 some l1)))
theorem ani (x y:U) (h:t6 x=some y):Um bW x=some y:=by simp only[t6] at h;split at h;rename_i hl;rw[<-h];simp only[Um];rw[show aU 0 0 (aa ([]:U))=some () from rfl,bV,mr (by simp only[au,aa,zaF,fe];omega),bV];have:ci [] x=x:=rfl;rw[this,show au (aa ([]:U)) (aa x)=aa x by simp[au,aa],kF];rfl;cases h
theorem amJ (x y:U) (h:pP x=some y):Tu bW x=some y:=by simp only[pP] at h;split at h;rename_i hl;rw[<-h];simp only[Tu];rw[mr (by simp only[au,aa,zaF,fe];omega),bV];have:ci [] x=x:=rfl;rw[this,show au (aa ([]:U)) (aa x)=aa x by simp[au,aa],kF];rfl;cases h
theorem Za {M:Nat->Nat->Int} {j q:Nat}:∀{d k:Nat},Cb M j d k=some q->k<=q/\q<k+d/\M q j≠0
 |0,k,h=>by cases h
 |d+1,k,h=>by simp only[Cb] at h;split at h;have:=Za h;exact⟨by omega,by omega,this.2.2⟩;rename_i a;injection h with h;subst h;exact⟨by omega,by omega,a⟩
theorem ao4 (p out x:Int):Aa p out x 0=out:=by rw[Aa];rfl
theorem ao6 {n:Nat} (h:n≠0) (p out x:Int):Aa p out x n=Aa p (if n%2=1 then out*x%p else out) (x*x%p) (n/2):=by rw[Aa,dif_neg h]
def aiD (x:Int×Int×Int):Prop:=jA x.1=true/\(1<=x.2.1/\x.2.1<=8)/\(1<=x.2.2/\x.2.2<=8)
instance (x:Int×Int×Int):Decidable (aiD x):=by unfold aiD;infer_instance
abbrev fI:=Nat->Nat->Int
def Gt (p inv:Int) (M:fI) (t:Nat):fI:=fun a b=>if a=t then M t b*inv%p else M a b
def n6 (p:Int) (M:fI) (t j n:Nat):fI:=fun a b=>if a<n/\a≠t then(M a b+(p - M a j)*M t b)%p else M a b
def NX (p:Int) (M:fI) (t j k:Nat):fI:=Gt p (Aa p 1 (ve M t k t j) (p - 2).toNat) (ve M t k) t
def ahg (p:Int) (M:fI) (t j k:Nat) (d:Int):Int:=(if k=t then d else(p - d)%p)*ve M t k t j%p
def Ce (p:Int) (r:Nat) (s:fI×U×Int) (j:Nat):fI×U×Int:=
 if s.2.1.length<r then
  match Cb s.1 j (r - s.2.1.length) s.2.1.length with
  |none=>s
  |some k=>(n6 p (NX p s.1 s.2.1.length j k) s.2.1.length j r,s.2.1++[(j:Int)],ahg p s.1 s.2.1.length j k s.2.2)
 else s
def ahh (p:Int) (r:Nat) (M:fI):Nat->fI×U×Int
 |0=>(M,[],1)
 |j+1=>Ce p r (ahh p r M j) j
def ahi (x:Int×Int×Int×U):Prop:=tC x.1/\F8 x.2/\vp x.1 x.2.2.2
instance (x:Int×Int×Int×U):Decidable (ahi x):=by unfold ahi;infer_instance
theorem ajd {p:Int} {r c:Nat} {M:fI} (e:v7 p r c M) {a b:Nat} (f:a<r) (h:b<r):v7 p r c (ve M a b):=by intro i g j d;unfold ve;split;exact e b h j d;split;exact e a f j d;exact e i g j d
theorem ahN {p inv:Int} {r c:Nat} {M:fI} (d:tC p) (e:v7 p r c M) (t:Nat):v7 p r c (Gt p inv M t):=by intro i b j a;unfold Gt;split;exact VC d _;exact e i b j a
theorem ak4 {p:Int} {r c:Nat} {M:fI} (d:tC p) (e:v7 p r c M) (t k n:Nat):v7 p r c (n6 p M t k n):=by intro i b j a;unfold n6;split;exact VC d _;exact e i b j a
theorem ati {p:Int} {r c:Nat} {M:fI} (d:tC p) (e:v7 p r c M) {t k:Nat} (b:t<r) (a:k<r) (j:Nat):v7 p r c (NX p M t j k):=ahN d (ajd e b a) t
structure RI (p:Int) (r c:Nat) (s:fI×U×Int) (j:Nat):Prop where
 m:v7 p r c s.1
 l:s.2.1.length<=r
 lj:s.2.1.length<=j
 d:v8 p s.2.2
 e:∀x∈s.2.1,0<=x/\x<(j:Int)
theorem RI.step {p:Int} {r c:Nat} {s:fI×U×Int} {j:Nat} (a:tC p) (h:RI p r c s j):RI p r c (Ce p r s j) (j+1):=by have d9:RI p r c s (j+1):=⟨h.m,h.l,by have:=h.lj;omega,h.d,fun x hx=>by have:=h.e x hx;omega⟩;unfold Ce;split;rename_i hl;split;exact d9;rename_i k b;have hq:=Za b;refine⟨ak4 a (ati a h.m hl (by omega) j) _ _ _,?_,?_,VC a _,?_⟩;simp only[zas,zaj,zaF];omega;have:=h.lj;simp only[zas,zaj,zaF];omega;intro x hx;simp only[List.mem_append,zbx] at hx;rcases hx with hx|rfl;have:=h.e x hx;omega;omega;exact d9
theorem ak3 {p:Int} (M:fI) (t j:Nat):n6 p M t j 0=M:=by funext a b;exact aq (by omega)
theorem ak5 {p:Int} (M:fI) (t j n b:Nat):n6 p M t j n n b=M n b:=aq (by omega)
theorem ak7 {p:Int} (M:fI) (t j n b:Nat):n6 p M t j n t b=M t b:=aq (by omega)
theorem ak6 {p:Int} (M:fI) (t j:Nat):n6 p M t j (t+1)=n6 p M t j t:=by funext a b;unfold n6;by_cases h:a<t;rw[ai (by omega),ai (by omega)];rw[aq (by omega),aq (by omega)]
theorem agO {M:fI} {j:Nat}:∀{d k:Nat},Cb M j d k=none->∀i,k<=i->i<k+d->M i j=0
 |0,k,_,i,h1,h2=>by omega
 |d+1,k,h,i,h1,h2=>by simp only[Cb] at h;split at h;rename_i a;by_cases b:i=k;rw[b];exact a;exact agO h i (by omega) (by omega);cases h
theorem atJ {p:Int} {r:Nat} {s:fI×U×Int} {j:Nat} (hl:s.2.1.length<r) (h:Cb s.1 j (r - s.2.1.length) s.2.1.length=none):Ce p r s j=s:=by unfold Ce;rw[ai hl,h]
theorem atK {p:Int} {r:Nat} {s:fI×U×Int} {j k:Nat} (hl:s.2.1.length<r) (h:Cb s.1 j (r - s.2.1.length) s.2.1.length=some k): Ce p r s j=(n6 p (NX p s.1 s.2.1.length j k) s.2.1.length j r,s.2.1++[(j:Int)],ahg p s.1 s.2.1.length j k s.2.2):=by unfold Ce;rw[ai hl,h]
section
variable {p:Int} {r c:Nat} {M0 M R:fI} {L:U}
end
abbrev CM:=Int×Int×Int×U
def awi:CM:=(0,0,0,[])
def aiu (s:CM):Prop:=(0<=s.1/\s.1<=64)/\(0<=s.2.1/\s.2.1<=64)/\(0<=s.2.2.1/\s.2.2.1<=64)/\(s.2.2.2.length:Int)=s.1*s.2.1*s.2.2.1
instance (s:CM):Decidable (aiu s):=by unfold aiu;infer_instance
def bd (b:Int) (l:List CM):Nat->Int
 |0=>b
 |k+1=>(l.getD k awi).2.2.1
def cE (n:Nat) (f:Nat->Int):U:=(zao n).map f
theorem ff (n:Nat) (f:Nat->Int):(cE n f).length=n:=by simp[cE]
theorem qM {n j:Nat} (f:Nat->Int) (h:j<n):(cE n f)[j]? =some (f j):=by simp[cE,zbt h]
theorem nB {n:Nat} {f g:Nat->Int} (h:∀j,j<n->f j=g j):cE n f=cE n g:=By fun j a=>h j (zaJ.1 a)
theorem JT {n j:Nat} (f:Nat->Int) (x:Int):br (cE n f) j x=cE n (fun q=>if q=j then x else f q):=by unfold br;apply IS;intro k;rw[List.getElem?_set,ff];by_cases a:k<n;rw[qM _ a,qM _ a];by_cases e:j=k;subst e;simp[a];rw[aq e];simp[show¬k=j from fun h=>e h.symm];rw[GB (by rw[ff];omega),GB (by rw[ff];omega)];by_cases e:j=k;subst e;simp[a];simp[e]
theorem F6 (n:Nat) (f:Nat->Int):aa (cE n f)=n:=ff n f
theorem Zq (n:Nat) (x:Int):cJ n x=cE n (fun _=>x):=by unfold cJ cE;rw[List.map_const',zbE]
theorem zH (n:Nat) (f g:Nat->Int):aU 0 (aa (cE n f)) (aa (cE n g))=some ():=by rw[F6,F6];exact bE n
theorem Ba {n j:Nat} (f:Nat->Int) (h:j<n):dg (j:Int) (aa (cE n f))=some j:=kU (by rw[F6];exact h)
theorem Dd {n j:Nat} (f:Nat->Int) (h:j<n):bL (cE n f) j=some (f j):=qM f h
theorem ad8 {α:Type} (P:Nat->α->Bool) (d:α):∀(l:List α) (i:Nat),zF (fun i (_:Unit) a=>if P i a=true then some () else none) i () l=if(∀k,k<l.length->P (i+k) (l.getD k d)=true) then some () else none
 |[],i=>by simp[zF]
 |a::l,i=>by rw[zF];by_cases h:P i a=true;rw[ai h];(try simp only);rw[ad8 P d l (i+1)];have:(∀k,k<l.length->P (i+1+k) (l.getD k d)=true)↔(∀k,k<(a::l).length->P (i+k) ((a::l).getD k d)=true):=(by constructor;intro b k e;(cases k with|zero=>exact h|succ k=>have:=b k (by simpa using e);rw[show i+(k+1)=i+1+k by omega];exact this);intro b k e;have:=b (k+1) (by simpa using e);rw[show i+(k+1)=i+1+k by omega] at this;exact this);by_cases c:∀k,k<l.length->P (i+1+k) (l.getD k d)=true;rw[ai c,ai (this.1 c)];rw[aq c,aq (fun f=>c (this.2 f))];rw[aq h,aq (fun b=>h (b 0 (by simp)))]
theorem map_take {α:Type} (g:α->Int) {L:List α} {j:Nat} {x:α} (h:L[j]? =some x):ci ((L.take j).map g) [g x]=(L.take (j+1)).map g:=by simp[ci,zbD,h]
def aB:U->Nat
 |[]=>1
 |x::l=>x.toNat*aB l
def eV (D:U) (i:Nat):Nat:=aB (D.drop i)
def fD (D:U) (n i:Nat):Int:=((n/eV D (i+1)%(D.getD i 0).toNat:Nat):Int)
def aD (D:U) (n:Nat):U:=cE D.length (fD D n)
def kl (D ix:U):Nat->Nat
 |0=>0
 |j+1=>kl D ix j*(D.getD j 0).toNat+(ix.getD j 0).toNat
def lH (D:U):Prop:=D.length<=1048576/\∀x∈D,1<=x/\x<=1048576
instance (D:U):Decidable (lH D):=by unfold lH;infer_instance
def Ez:U×Int->Option U:=fun x=>if lH x.1/\0<=x.2/\x.2<=1048576 then some (aD x.1 x.2.toNat) else none
def vj:U×U->Option (Bool×U):=fun x=>
 if lH x.1/\x.2=aD x.1 (kl x.1 x.2 x.1.length)/\kl x.1 x.2 x.1.length<aB x.1/\aB x.1<=1048576 then
  some (decide (kl x.1 x.2 x.1.length+1<aB x.1),aD x.1 (kl x.1 x.2 x.1.length+1)) else none
def Ul (NN:Nat):(U×Int)->(Option U):=
 (fun(l0,i1)=>
 (j6 (aK (aa l0)) (aK (aa l0)) 8).ae (fun k2=>
 bN ((aU 0 k2 (aa (cJ k2 (0:Int)))).ae (fun _=>
 bS NN (fun((l3,i4,i5),l6)=>
 aA (gZ (0:Int) i5)
 ((cg l3 i5).ae (fun i7=>
 (ja i4 i7).ae (fun i8=>
 (dg i5 (aa l6)).ae (fun k9=>
 (bL l6 (au 0 k9)).ae (fun gM=>
 (cg l3 i5).ae (fun fU=>
 (JK .i64 i4 fU).ae (fun eA=>
 (aU 0 (aa l6) (aa (br l6 (au 0 k9) i8))).ae (fun _=>
 some (wt ((l3,eA,lv .i64 i5 1),br l6 (au 0 k9) i8))))))))))
 ((ah l6 (
 some (wt l6))).ae (fun eY=>
 some (AI eY))))
 ((l0,i1,lv .i64 (aK (aa l0)) (1:Int)),cJ k2 (0:Int))))
 (fun dh=>
 (dO dh (aa dh)).ae (fun dH=>
 some dH))))
def TI (NN:Nat):(U×U)->(Option (Bool×U)):=
 (fun(l0,l1)=>
 bN (ah l1 (
 bS NN (fun((l2,i3),l4)=>
 aA (gZ (0:Int) i3)
 ((dg i3 (aa l4)).ae (fun k5=>
 (bL l4 (au 0 k5)).ae (fun i6=>
 (dg i3 (aa l4)).ae (fun k7=>
 (bL l4 (au 0 k7)).ae (fun i8=>
 (dg i3 (aa l4)).ae (fun k9=>
 (bL (br l4 (au 0 k7) (bt .i64 i6 1)) (au 0 k9)).ae (fun gM=>
 (cg l2 i3).ae (fun fU=>
 aA (cH gM fU)
 ((((lm (aa (br l4 (au 0 k7) (bt .i64 i6 1))) (aa l1)).ae (fun _=>
 some (true,br l4 (au 0 k7) (bt .i64 i6 1)))).ae (fun((CS,eY):(Bool×U))=>
 some (AI (CS,eY)))).ae (fun dh=>
 some (AI dh)))
 ((dg i3 (aa l4)).ae (fun yH=>
 (bL (br l4 (au 0 k7) (bt .i64 i6 1)) (au 0 yH)).ae (fun fV=>
 (aU 0 (aa l4) (aa (br (br l4 (au 0 k7) (bt .i64 i6 1)) (au 0 yH) (0:Int)))).ae (fun _=>
 some (wt ((l2,lv .i64 i3 1),br (br l4 (au 0 k7) (bt .i64 i6 1)) (au 0 yH) (0:Int)))))))))))))))
 (some (AI (wt l4))))
 ((l0,lv .i64 (aK (aa l0)) (1:Int)),l1)))
 (fun dj=>
 (lm (aa dj) (aa l1)).ae (fun _=>
 some (false,dj))))
theorem HO {D:U} (h:lH D) {i:Nat} (a:i<D.length):∃d:Nat,D[i]? =some (d:Int)/\D.getD i 0=(d:Int)/\(D.getD i 0).toNat=d/\1<=d/\d<=1048576:=by have e:=getD_some 0 a;have hm:=h.2 _ (IT e);obtain⟨d,hd⟩:=nU (show 0<=D.getD i 0 by omega);exact⟨d,by rw[e,hd],hd,by rw[hd];rfl,by omega,by omega⟩
theorem Ee {D:U} {i:Nat} (a:i<D.length):eV D i=(D.getD i 0).toNat*eV D (i+1):=by unfold eV;rw[drop_cons (getD_some 0 a),aB]
theorem xI (D:U):eV D D.length=1:=by simp[eV,aB]
theorem SQ (D:U):eV D 0=aB D:=rfl
theorem Ax:∀{D:U},(∀x∈D,1<=x)->0<aB D
 |[],_=>Nat.one_pos
 |x::l,h=>by have h1:=h x zaE;exact zbR (by omega) (Ax fun y hy=>h y (zaw _ hy))
theorem ajg {D:U} (h:lH D) (i:Nat):0<eV D i:=Ax fun x hx=>(h.2 x (zaR hx)).1
theorem tE:∀{D:U},(∀x∈D,1<=x)->fA D=(aB D:Int)
 |[],_=>rfl
 |x::l,h=>by have h1:=h x zaE;rw[fA,aB,tE fun y hy=>h y (zaw _ hy)];obtain⟨x,rfl⟩:=nU (show 0<=x by omega);simp
theorem aaA {D:U} {i j:Nat} (h:i<=j) (hj:j<=D.length):eV D j∣eV D i:=by obtain⟨k,rfl⟩:∃k,j=i+k:=⟨j - i,by omega⟩;induction k with|zero=>exact Nat.dvd_refl _|succ k a=>refine zbz ?_ (a (by omega) (by omega));rw[Ee (i:=i+k) (by omega)];exact Nat.dvd_mul_left _ _
def xv (D:U) (n n' k:Nat):U:=cE D.length fun q=>if k<=q then fD D n' q else fD D n q
theorem aqp (D:U) (n a:Nat):xv D n a 0=aD D a:=nB fun q _=>by simp
theorem aqq (D:U) (n a:Nat):xv D n a D.length=aD D n:=nB fun q hq=>by simp;intro h;omega
theorem af4 (D:U) (n a k:Nat):br (xv D n a (k+1)) k (fD D a k)=xv D n a k:=by unfold xv;rw[JT];refine nB fun q _=>?_;by_cases e:q=k;subst e;simp;by_cases h:k<=q;rw[aq e,ai (by omega),ai h];rw[aq e,aq (by omega),aq h]
theorem QT (D:U) (n a k:Nat):aa (xv D n a k)=D.length:=ff _ _
theorem Jp {D:U} {n a k:Nat} (h:k<D.length):bL (xv D n a (k+1)) k=some (fD D n k):=by unfold xv;rw[Dd _ h,aq (by omega)]
theorem akV {a b:Nat} (hb:0<b) (ha:a<=1048576):JK .i64 (a:Int) (b:Int)=some ((a/b:Nat):Int):=by have e:((a:Int)/(b:Int))=((a/b:Nat):Int):=(by norm_cast);have:a/b<=a:=zbm a b;unfold JK;rw[aq (by omega),Int.tdiv_eq_ediv_of_nonneg (by omega),e];clear e;generalize a/b=q at*;rw[S6 (by omega) (by omega)]
theorem abP {a b:Nat} (hb:0<b):ja (a:Int) (b:Int)=some ((a%b:Nat):Int):=by rw[atU (by omega) (by omega)];norm_cast
theorem SK {n:Nat} (h:n<=1048577:=by omega):lv .i64 (n:Int) 1=(n:Int) - 1:=rF
theorem acW (x:U×Int) (y:U) (h:Ez x=some y):Ul bW x=some y:=by
 obtain⟨D,n⟩:=x;simp only[Ez] at h;split at h
 ·rename_i k;obtain⟨f,m,h1⟩:=k;rw[<-h];obtain⟨n,rfl⟩:=nU m;have hl:=f.1;simp only[Ul,AT,ah];rw[si (n:=aa D) (by simp only[aa,fe];omega),bV];rw[show aU 0 (aa D) (aa (cJ (aa D) (0:Int)))=some () from by rw[uN];exact bE _,bV]
  rw[gd (fun j=>((D,((n/eV D (D.length - j):Nat):Int),(D.length:Int) - j - 1),cE D.length fun q=>if D.length - j<=q then fD D n q else 0)) (r:=wt (aD D n)) D.length ?_ ?_ ?_ dY]
  ·rw[ic,kF,bV]
  ·intro j hj;have a:D.length - (j+1)<D.length:=by omega
   obtain⟨d,p,d2,c,d4,d5⟩:=HO f a;have l:(D.length:Int) - j - 1=((D.length - (j+1):Nat):Int):=by omega
   have o:eV D (D.length - (j+1))=d*eV D (D.length - j):=by rw[Ee a,c];congr 2;omega
   have b:fD D n (D.length - (j+1))=((n/eV D (D.length - j)%d:Nat):Int):=by unfold fD;rw[c];congr 4;omega
   have jU:n/eV D (D.length - j)<=n:=zbm _ _;simp only
   rw[l,be qI,dw,p,bV,abP (by omega),bV,Ba _ a,bV,gW,Dd _ a,bV];simp only[bV];rw[akV (by omega) (by omega),bV,<-b,JT];simp only[zH,bV];rw[SK,zbf,zab (eV D (D.length - j)) d,<-o];have er:cE D.length (fun q=>if q=D.length - (j+1) then fD D n (D.length - (j+1)) else if D.length - j<=q then fD D n q else 0)=cE D.length fun q=>if D.length - (j+1)<=q then fD D n q else 0:=by
    refine nB fun q _=>?_;by_cases e:q=D.length - (j+1)
    ·rw[ai e,ai (by omega),e]
    ·rw[aq e];by_cases h:D.length - j<=q
     ·rw[ai h,ai (by omega)]
     ·rw[aq h,aq (by omega)]
   rw[er];congr 5;omega
  ·simp only
   rw[aW B7];simp only[zH,bV];rw[show cE D.length (fun q=>if D.length - D.length<=q then fD D n q else 0)=aD D n from nB fun q _=>by simp]
  ·rw[Zq,zbH,xI,zcb];have g:lv .i64 (aK (aa D)) 1=(D.length:Int) - ((0:Nat):Int) - 1:=by rw[nl,SK];omega
   rw[g];have i:cE (aa D) (fun _=>(0:Int))=cE D.length fun q=>if D.length<=q then fD D n q else 0:=nB fun q hq=>by rw[aq (by have:aa D=D.length:=rfl;omega)]
   rw[i]
 ·cases h
theorem aly {a k:Nat} (hk:0<k) (h:(a+1)%k≠0):(a+1)/k=a/k:=by rw[zb3,aq (fun hd=>h (zaH hd)),zbj]
theorem alz {a k:Nat} (hk:0<k) (h:(a+1)%k=0):(a+1)/k=a/k+1:=by rw[zb3,ai (zaz h)]
theorem alw {D:U} (d:lH D) {n i:Nat} (b:i<=D.length) (h:(n+1)%eV D i≠0) {q:Nat} (c:q<i):fD D (n+1) q=fD D n q:=by unfold fD;rw[aly (ajg d _)];intro a;exact h (zaH (zbz (aaA c b) (zaz a)))
theorem ack {D:U} (m:lH D) {n i:Nat} (l:i<D.length) (h:(n+1)%eV D (i+1)=0):
  (fD D n i+1<D.getD i 0->fD D (n+1) i=fD D n i+1/\(n+1)%eV D i≠0)/\(¬fD D n i+1<D.getD i 0->fD D (n+1) i=0/\(n+1)%eV D i=0):=by
 obtain⟨d,d1,p,o,d4,d5⟩:=HO m l;have e:=ajg m (i+1);have g:=alz e h;obtain⟨c,k⟩:=zaz h;have j:(n+1)/eV D (i+1)=c:=by rw[k,Nat.mul_div_cancel_left _ e]
 have b:(n+1)%eV D i=eV D (i+1)*(c%d):=by rw[Ee l,o,k,zab d,Nat.mul_mod_mul_left]
 unfold fD;rw[p,j,b];simp only[AT];rw[j] at g;have cI:n/eV D (i+1)%d<d:=zbF _ (by omega);have f:c%d=if n/eV D (i+1)%d+1<d then n/eV D (i+1)%d+1 else 0:=by
  rw[g,zbS];split
  ·rename_i hx;by_cases a:d=1
   ·omega
   ·rw[zaq (show 1<d by omega),zaq hx]
  ·by_cases a:d=1
   ·subst a;omega
   ·rw[zaq (show 1<d by omega),show n/eV D (i+1)%d+1=d by omega,Nat.mod_self]
 constructor
 ·intro hx;rw[f,ai (by omega)];refine⟨by omega,?_⟩;have:=zbR e (show 0<n/eV D (i+1)%d+1 by omega);omega
 ·intro hx;rw[f,aq (by omega)];exact⟨by omega,by simp⟩
theorem amU (x:U×U) (y:Bool×U) (h:vj x=some y):TI bW x=some y:=by
 obtain⟨D,ix⟩:=x;simp only[vj] at h;split at h
 ·rename_i E;obtain⟨l,z,hn,hp⟩:=E;rw[<-h];generalize kl D ix D.length=n at*
  subst z;have hl:=l.1;have hlen:(aD D n).length=D.length:=ff _ _;simp only[TI,ah];rw[bE,bV];obtain⟨k,k1,F,v⟩:=GG (fun j=>(n+1)%eV D (D.length - (j+1))=0) D.length;have g:∀j,j<=k->(n+1)%eV D (D.length - j)=0:=fun j t=>by
   cases j with
   |zero=>rw[zbH,xI];omega
   |succ j=>exact F j (by omega)
  have B:∀j,j<k->fD D (n+1) (D.length - (j+1))=0/\¬fD D n (D.length - (j+1))+1<D.getD (D.length - (j+1)) 0:=fun j t=>by
   have a:D.length - (j+1)<D.length:=by omega
   have c:=g j (by omega);rw[show D.length - j=D.length - (j+1)+1 by omega] at c;obtain⟨m,p⟩:=ack l a c;by_cases hx:fD D n (D.length - (j+1))+1<D.getD (D.length - (j+1)) 0
   ·exact absurd (g (j+1) (by omega)) (m hx).2
   ·exact⟨(p hx).1,hx⟩
  have d:∀q,0<=fD D n q/\fD D n q<=1048576:=fun q=>by
   unfold fD;have c:n/eV D (q+1)%(D.getD q 0).toNat<=n/eV D (q+1):=Nat.mod_le _ _;have h2:n/eV D (q+1)<=n:=zbm _ _;omega
  have C:lv .i64 (aK (aa D)) 1=(D.length:Int) - ((0:Nat):Int) - 1:=by rw[nl,SK];omega
  rw[gd (fun j=>((D,(D.length:Int) - (j:Int) - 1),xv D n (n+1) (D.length - j))) (r:=if k=D.length then wt (aD D (n+1)) else AI (true,aD D (n+1))) k ?_ ?_ ?_ dY]
  ·by_cases a:k=D.length
   ·rw[ai a,ic];have w:(n+1)%aB D=0:=by have:=g k (OF _);rwa[a,zaZ,SQ] at this
    have u:¬n+1<aB D:=fun hx=>by rw[zaq hx] at w;omega
    rw[decide_eq_false u,yX (by show aa (aD D (n+1))=aa (aD D n);unfold aD;rw[F6,F6]),bV]
   ·rw[aq a,X7];have f:=(v.resolve_left a);have u:n+1<aB D:=by
     rcases za1 (n+1) (aB D) with h|h
     ·exact h
     ·exfalso;have e:n+1=aB D:=by omega
      apply f;rw[e,<-SQ];exact zaH (aaA (zca _) (by omega))
    rw[decide_eq_true u]
  ·intro j t;have a:D.length - (j+1)<D.length:=by omega
   have s:(D.length:Int) - j - 1=((D.length - (j+1):Nat):Int):=by omega
   obtain⟨o,A⟩:=B j t;have G:=d (D.length - (j+1));simp only
   rw[s,show D.length - j=D.length - (j+1)+1 by omega,be qI,kU (by rw[QT];exact a),bV,gW,Jp a,bV];simp only[bV,gW,Jp a];rw[dZ];have i:bL (br (xv D n (n+1) (D.length - (j+1)+1)) (D.length - (j+1)) (fD D n (D.length - (j+1))+1)) (D.length - (j+1))=some (fD D n (D.length - (j+1))+1):=aeq (Jp a);rw[i,bV,dw,getD_some 0 a,bV,aW eB]
   try simp only[bV,gW,i]
   rw[av8,<-o,af4,QT,QT,bE,bV,SK];congr 4;omega
  ·by_cases a:k=D.length
   ·rw[ai a,a];simp only
    rw[aW B7,zaZ,aqp]
   ·rw[aq a];have b:D.length - (k+1)<D.length:=by omega
    have s:(D.length:Int) - k - 1=((D.length - (k+1):Nat):Int):=by omega
    have c:=g k (OF _);rw[show D.length - k=D.length - (k+1)+1 by omega] at c;obtain⟨m,p⟩:=ack l b c;have f:=(v.resolve_left a);have hx:fD D n (D.length - (k+1))+1<D.getD (D.length - (k+1)) 0:=by
     rcases zbG (fD D n (D.length - (k+1))+1<D.getD (D.length - (k+1)) 0) with h|h
     ·exact h
     ·exact absurd (p h).2 f
    obtain⟨o,A⟩:=m hx;have G:=d (D.length - (k+1));simp only
    rw[s,show D.length - k=D.length - (k+1)+1 by omega,be qI,kU (by rw[QT];exact b),bV,gW,Jp b,bV];simp only[bV,gW,Jp b];rw[dZ];have i:bL (br (xv D n (n+1) (D.length - (k+1)+1)) (D.length - (k+1)) (fD D n (D.length - (k+1))+1)) (D.length - (k+1))=some (fD D n (D.length - (k+1))+1):=aeq (Jp b);rw[i,bV,dw,getD_some 0 b,bV,be dt];rw[<-o,af4];have er:xv D n (n+1) (D.length - (k+1))=aD D (n+1):=nB fun q hq=>by
     by_cases h:D.length - (k+1)<=q
     ·rw[ai h]
     ·rw[aq h,alw l (by omega) f (by omega)]
    rw[er,yX (by show aa (aD D (n+1))=aa (aD D n);unfold aD;rw[F6,F6]),bV];rfl
  ·rw[C,zbH,aqq]
 ·cases h
theorem BT {D:U} {n i:Nat} (a:i<D.length):(aD D n).getD i 0=fD D n i:=by rw[zan,aD,qM _ a];rfl
theorem YU {D:U} (a:lH D) {n:Nat} (hn:n<aB D):∀j,j<=D.length->kl D (aD D n) j=n/eV D j
 |0,_=>by rw[SQ,zbJ hn];rfl
 |j+1,hj=>by rw[kl,YU a hn j (by omega),BT (by omega),fD,AT,Ee (by omega),zab (D.getD j 0).toNat,<-zbf,zab,zaV]
theorem QY {D:U} (a:lH D) {n:Nat} (hn:n<aB D) (b:aB D<=1048576):vj (D,aD D n)=some (decide (n+1<aB D),aD D (n+1)):=by have e:=YU a hn D.length (OF _);rw[xI,zcb] at e;simp only[vj,e];rw[ai ⟨a,trivial,hn,b⟩]
theorem Rz (n:Nat) (f:Nat->Int):ci (cE n f) [f n]=cE (n+1) f:=by unfold ci cE;rw[zbT,List.map_append];rfl
theorem ae0 {D:U} (hD:lH D):cJ (aa D) (0:Int)=aD D 0:=by rw[Zq];refine nB fun i _=>?_;simp[fD]
def aa3:U×U->Option Bool:=fun x=>if x.1.length<=1048576/\x.2.length<=1048576 then some (decide (x.1=x.2)) else none
def vi:U×U->Option Bool:=aa3
def Tx (NN:Nat):(U×U)->(Option Bool):=
 (fun(l0,l1)=>
 aA (iQ (aK (aa l0)) (aK (aa l1)))
 (some false)
 (bN (bS NN (fun(l2,l3,i4,i5)=>
 aA (cH i5 i4)
 ((cg l2 i5).ae (fun i6=>
 (cg l3 i5).ae (fun i7=>
 aA (iQ i6 i7)
 (some (AI (AI false)))
 (some (wt (l2,l3,i4,bt .i64 i5 1))))))
 (some (AI (wt ()))))
 (l0,l1,aK (aa l0),(0:Int)))
 (fun _=>
 some true)))
theorem acw {x y:U} (h:x.length=y.length):(x=y)↔∀k,k<x.length->x.getD k 0=y.getD (0+k) 0:=by constructor;rintro rfl k _;rw[zat];intro b;apply IS;intro k;by_cases a:k<x.length;have:=b k a;rw[zat] at this;rw[getD_some 0 a,getD_some 0 (show k<y.length by omega),this];rw[GB (by omega),GB (by omega)]
theorem amM (x:U×U) (y:Bool) (h:vi x=some y):Tx bW x=some y:=by
 obtain⟨D,ix⟩:=x;simp only[vi,aa3] at h;split at h
 ·rename_i d;obtain⟨h1,h2⟩:=d;rw[<-h];simp only[Tx];by_cases hl:D.length=ix.length
  ·rw[aW (rB (by simp only[nl,hl]))];rw[aqc D (fun(_:Unit) i=>(D,ix,aK (aa D),(i:Int))) (fun _ _=>True) (fun i _ v=>if decide (v=ix.getD i 0)=true then some () else none) (AI false) (fun _=>wt ()) ?_ ?_ ?_ (s:=()) trivial ?_ dY]
   ·rw[ad8 (fun i v=>decide (v=ix.getD i 0)) 0];by_cases a:∀k,k<D.length->decide (D.getD k 0=ix.getD (0+k) 0)=true
    ·rw[ai a,decide_eq_true ((acw hl).2 fun k c=>of_decide_eq_true (a k c))];rfl
    ·rw[aq a,decide_eq_false (fun h=>a fun k c=>decide_eq_true ((acw hl).1 h k c))];rfl
   all_goals try simp only
   ·intro i _ v b _;have hi:=Jm b;rw[be (Ao b),dw,b,bV,dw,getD_some 0 (show i<ix.length by omega),bV];by_cases q:v=ix.getD i 0
    ·rw[aW (rB q),ai (decide_eq_true q),Gb b (by omega)]
    ·rw[be (xy q),aq (fun h=>q (of_decide_eq_true h))]
   ·intros;trivial
   ·intro _ _;rw[aW (o7 D)]
   ·rfl
  ·rw[be (xy (by simp only[nl];omega)),decide_eq_false (fun e=>hl (by rw[e]))]
 ·cases h
def dA:Int×Int×Int->Bool:=fun((k,p,n):Int×Int×Int)=>
 if k=1 then decide (p=0/\n=0) else if k=2 then jA p&&decide (n=0) else if k=3\/k=4\/k=5 then decide ((1<=p/\p<=1000000)/\n=0)
 else if k=6 then decide (p=0/\1<=n/\n<=20) else if k=7 then jA p&&decide (1<=n/\n<=6) else if k=8 then jA p&&decide (p≠2/\n=0) else false
def lB:Int×Int×Int->Int:=fun((k,p,n):Int×Int×Int)=>if k=7 then n else if k=8 then 4 else 1
def ar (r:Int×Int×Int):Nat:=(lB r).toNat
def dz:Int×Int×Int->Int:=fun((k,p,n):Int×Int×Int)=>if k=1 then 1 else if k=3\/k=4\/k=5 then p else if k=6 then 2^n.toNat - 1 else p - 1
def qF (t v:Int):Bool:=decide (0<=v/\v<=t)
def eD (r:Int×Int×Int) (x:U):Bool:=decide (x.length=ar r)&&x.all (qF (dz r))
def dU:Int×Int×Int->U:=fun((k,p,n):Int×Int×Int)=>if k=4 then[p] else cJ (ar (k,p,n)) 0
def As:Int×Int×Int->U:=fun((k,p,n):Int×Int×Int)=>br (cJ (ar (k,p,n)) 0) 0 (if k=4 then 0 else if k=5\/k=6 then dz (k,p,n) else 1)
def mT:Int×Int×Int->Int->Int->Int:=fun((k,p,n):Int×Int×Int) a b=>
 if k=1\/k=6 then((a.toNat|||b.toNat:Nat):Int) else if k=3 then min (a+b) p else if k=4 then min a b else if k=5 then max a b else(a+b)%p
def sm:Nat->(Nat->Int)->Int
 |0,_=>0
 |n+1,f=>sm n f+f n
def kW (om:Bool) (x y:Nat->Int) (t i j:Nat):Int:=if i+j=t then x i*y j else if om=true/\i+j=t+4 then -(x i*y j) else 0
def jb (w:Nat) (f:Nat->Int):U:=(zao w).map f
def cZ (x:U):Nat->Int:=fun i=>x.getD i 0
def g9 (r:Int×Int×Int) (x y:U):U:=jb (ar r) fun j=>mT r (cZ x j) (cZ y j)
def yb (p:Int) (om:Bool) (w:Nat) (x y:Nat->Int):U:=jb w fun t=>sm w (fun i=>sm w (fun j=>kW om x y t i j))%p
def oC:Int×Int×Int->Int->Int->Int:=fun((k,p,n):Int×Int×Int) a b=>
 if k=1\/k=6 then((a.toNat&&&b.toNat:Nat):Int) else if k=2 then a*b%p else if k=3 then min (a*b) p else if k=4 then min (a+b) p else min a b
def pK (r:Int×Int×Int) (x y:U):U:=if r.1=7\/r.1=8 then yb r.2.1 (decide (r.1=8)) (ar r) (cZ x) (cZ y) else[oC r (cZ x 0) (cZ y 0)]
def G5:Int×Int×Int->Option Bool:=fun r=>some (dA r)
def CA:Int×Int×Int->Option Bool:=fun r=>some (dA r)
def wM:Int×Int×Int->Option Int:=fun r=>some (lB r)
def tY:Int×Int×Int->Option Int:=fun r=>some (lB r)
def zf:Int×Int×Int->Option Int:=fun r=>if dA r=true then some (dz r) else none
def G0:Int×Int×Int->Option Int:=fun r=>if dA r=true then some (dz r) else none
def GW:(Int×Int×Int)×U->Option Bool:=fun((r,x):(Int×Int×Int)×U)=>if dA r=true/\x.length<=9223372036854775806 then some (x.all (qF (dz r))) else none
def AO:Int×Int×Int->Option U:=fun r=>if dA r=true then some (dU r) else none
def wL:Int×Int×Int->Option U:=fun r=>if dA r=true then some (dU r) else none
def G6:Int×Int×Int->Option U:=fun r=>if dA r=true then some (As r) else none
def Ev:(Int×Int×Int)×U×U×U->Option U:=fun((r,l,x,y):(Int×Int×Int)×U×U×U)=>
 if(dA r=true/\(r.1=7\/r.1=8))/\l.length=ar r/\eD r x=true/\eD r y=true then some (pK r x y) else none
def GY:(Int×Int×Int)×U×U×U->Option U:=fun((r,l,x,y):(Int×Int×Int)×U×U×U)=>
 if dA r=true/\l.length=ar r/\eD r x=true/\eD r y=true then some (pK r x y) else none
def Tn (NN:Nat):(Int×(Int×Int))->(Option Bool):=
 (fun(i0,i1,i2)=>
 aA (bH i0 (1:Int))
 (aA (bH i1 (0:Int))
 (some (bH i2 (0:Int)))
 (some false))
 (aA (bH i0 (2:Int))
 ((Cy i1).ae (fun b3=>
 aA (b3)
 (some (bH i2 (0:Int)))
 (some false)))
 (bN (aA (bH i0 (3:Int))
 (some (wt ((true,i0),i0,i1,i2)))
 (aA (bH i0 (4:Int))
 (some (wt ((true,i0),i0,i1,i2)))
 (some (wt ((bH i0 (5:Int),i0),i0,i1,i2)))))
 (fun((b4,i5),i6,i7,i8)=>
 aA (b4)
 (aA (gZ (1:Int) i7)
 (aA (gZ i7 (1000000:Int))
 (some (bH i8 (0:Int)))
 (some false))
 (some false))
 (aA (bH i5 (6:Int))
 (aA (bH i7 (0:Int))
 (aA (gZ (1:Int) i8)
 (some (gZ i8 (20:Int)))
 (some false))
 (some false))
 (aA (bH i5 (7:Int))
 ((Cy i7).ae (fun b9=>
 aA (b9)
 (aA (gZ (1:Int) i8)
 (some (gZ i8 (6:Int)))
 (some false))
 (some false)))
 (aA (bH i5 (8:Int))
 ((Cy i7).ae (fun pR=>
 aA (pR)
 (aA (iQ i7 (2:Int))
 (some (bH i8 (0:Int)))
 (some false))
 (some false)))
 (some false))))))))
def T4 (NN:Nat):(Int×(Int×Int))->(Option Bool):=
 (fun(i0,i1,i2)=>
 aA (bH i0 (1:Int))
 (aA (bH i1 (0:Int))
 (some (bH i2 (0:Int)))
 (some false))
 (aA (bH i0 (2:Int))
 ((CF i1).ae (fun b3=>
 aA (b3)
 (some (bH i2 (0:Int)))
 (some false)))
 (bN (aA (bH i0 (3:Int))
 (some (wt ((true,i0),i0,i1,i2)))
 (aA (bH i0 (4:Int))
 (some (wt ((true,i0),i0,i1,i2)))
 (some (wt ((bH i0 (5:Int),i0),i0,i1,i2)))))
 (fun((b4,i5),i6,i7,i8)=>
 aA (b4)
 ((oE (i7,(1:Int),(1000000:Int))).ae (fun b9=>
 aA (b9)
 (some (bH i8 (0:Int)))
 (some false)))
 (aA (bH i5 (6:Int))
 (aA (bH i7 (0:Int))
 ((oE (i8,(1:Int),(20:Int))).ae (fun pR=>
 some pR))
 (some false))
 (aA (bH i5 (7:Int))
 ((CF i7).ae (fun Hp=>
 aA (Hp)
 ((oE (i8,(1:Int),(6:Int))).ae (fun CS=>
 some CS))
 (some false)))
 (aA (bH i5 (8:Int))
 ((CF i7).ae (fun Ll=>
 aA (Ll)
 (aA (cH (2:Int) i7)
 (some (bH i8 (0:Int)))
 (some false))
 (some false)))
 (some false))))))))
def TO (NN:Nat):(Int×(Int×Int))->(Option Int):=
 (fun(i0,i1,i2)=>
 aA (bH i0 (7:Int))
 (some i2)
 (aA (bH i0 (8:Int))
 (some (4:Int))
 (some (1:Int))))
def aa9 (NN:Nat):(Int×(Int×Int))->(Option Int):=
 (fun(i0,i1,i2)=>
 aA (bH i0 (7:Int))
 (some i2)
 (aA (bH i0 (8:Int))
 (some (4:Int))
 (some (1:Int))))
def aa7 (NN:Nat):(Int×(Int×Int))->(Option Int):=
 (fun(i0,i1,i2)=>
 aA (bH i0 (1:Int))
 (some (1:Int))
 (bN (aA (bH i0 (3:Int))
 (some (wt ((true,i0),i0,i1,i2)))
 (aA (bH i0 (4:Int))
 (some (wt ((true,i0),i0,i1,i2)))
 (some (wt ((bH i0 (5:Int),i0),i0,i1,i2)))))
 (fun((b3,i4),i5,i6,i7)=>
 aA (b3)
 (some i6)
 (aA (bH i4 (6:Int))
 ((Co .i64 (1:Int) i7).ae (fun i8=>
 some (lv .i64 i8 1)))
 (some (lv .i64 i6 1))))))
def aa8 (NN:Nat):(Int×(Int×Int))->(Option Int):=
 (fun(i0,i1,i2)=>
 aA (bH i0 (1:Int))
 (some (1:Int))
 (bN (aA (bH i0 (3:Int))
 (some (wt ((true,i0),i0,i1,i2)))
 (aA (bH i0 (4:Int))
 (some (wt ((true,i0),i0,i1,i2)))
 (some (wt ((bH i0 (5:Int),i0),i0,i1,i2)))))
 (fun((b3,i4),i5,i6,i7)=>
 aA (b3)
 (some i6)
 (aA (bH i4 (6:Int))
 ((Co .i64 (1:Int) i7).ae (fun i8=>
 some (lv .i64 i8 1)))
 (some (lv .i64 i6 1))))))
def TC (NN:Nat):((Int×(Int×Int))×U)->(Option Bool):=
 (fun((i0,i1,i2),l3)=>
 (G0 (i0,i1,i2)).ae (fun i4=>
 bN (bS NN (fun(i5,l6,i7,i8)=>
 aA (cH i8 i7)
 ((cg l6 i8).ae (fun i9=>
 aA (cH i9 (0:Int))
 (some (AI (AI false)))
 (aA (cH i5 i9)
 (some (AI (AI false)))
 (some (wt (i5,l6,i7,bt .i64 i8 1))))))
 (some (AI (wt ()))))
 (i4,l3,aK (aa l3),(0:Int)))
 (fun _=>
 some true)))
def TP (NN:Nat):(Int×(Int×Int))->(Option U):=
 (fun(i0,i1,i2)=>
 (tY (i0,i1,i2)).ae (fun i3=>
 (j6 i3 i3 8).ae (fun k4=>
 bN (aA (bH i0 (4:Int))
 ((dg (0:Int) k4).ae (fun k5=>
 (bL (cJ k4 (0:Int)) (au 0 k5)).ae (fun i6=>
 (aU 0 k4 (aa (br (cJ k4 (0:Int)) (au 0 k5) i1))).ae (fun _=>
 some (wt (br (cJ k4 (0:Int)) (au 0 k5) i1))))))
 ((aU 0 k4 (aa (cJ k4 (0:Int)))).ae (fun _=>
 some (wt (cJ k4 (0:Int))))))
 (fun l7=>
 (dO l7 (aa l7)).ae (fun l8=>
 some l8)))))
def aba (NN:Nat):(Int×(Int×Int))->(Option U):=
 (fun(i0,i1,i2)=>
 (wM (i0,i1,i2)).ae (fun i3=>
 (j6 i3 i3 8).ae (fun k4=>
 bN (aA (bH i0 (4:Int))
 ((dg (0:Int) k4).ae (fun k5=>
 (bL (cJ k4 (0:Int)) (au 0 k5)).ae (fun i6=>
 (aU 0 k4 (aa (br (cJ k4 (0:Int)) (au 0 k5) i1))).ae (fun _=>
 some (wt (br (cJ k4 (0:Int)) (au 0 k5) i1))))))
 ((aU 0 k4 (aa (cJ k4 (0:Int)))).ae (fun _=>
 some (wt (cJ k4 (0:Int))))))
 (fun l7=>
 (dO l7 (aa l7)).ae (fun l8=>
 some l8)))))
def Ue (NN:Nat):(Int×(Int×Int))->(Option U):=
 (fun(i0,i1,i2)=>
 (wM (i0,i1,i2)).ae (fun i3=>
 (j6 i3 i3 8).ae (fun k4=>
 bN (aA (bH i0 (5:Int))
 ((aU 0 k4 (aa (cJ k4 (0:Int)))).ae (fun _=>
 some (wt ((true,i0),(i0,i1,i2),cJ k4 (0:Int)))))
 ((aU 0 k4 (aa (cJ k4 (0:Int)))).ae (fun _=>
 some (wt ((bH i0 (6:Int),i0),(i0,i1,i2),cJ k4 (0:Int))))))
 (fun((b5,i6),(i7,i8,i9),cP)=>
 aA (b5)
 ((zf (i7,i8,i9)).ae (fun fU=>
 (dg (0:Int) (aa cP)).ae (fun rp=>
 (bL cP (au 0 rp)).ae (fun ft=>
 (dO (br cP (au 0 rp) fU) (aa cP)).ae (fun dh=>
 some dh)))))
 (aA (bH i6 (4:Int))
 ((dg (0:Int) (aa cP)).ae (fun yH=>
 (bL cP (au 0 yH)).ae (fun fV=>
 (dO (br cP (au 0 yH) (0:Int)) (aa cP)).ae (fun dj=>
 some dj))))
 ((dg (0:Int) (aa cP)).ae (fun Ad=>
 (bL cP (au 0 Ad)).ae (fun gD=>
 (dO (br cP (au 0 Ad) (1:Int)) (aa cP)).ae (fun gE=>
 some gE)))))))))
def TH (NN:Nat):((Int×(Int×Int))×(U×(U×U)))->(Option U):=
 (fun((i0,i1,i2),l3,l4,l5)=>
 (vC l3 0 (aa l3) (cJ (aa l3) (0:Int))).ae (fun l6=>
 (aU 0 (aa l3) (aa l6)).ae (fun _=>
 bS NN (fun((l7,l8,i9,gM),ed,eA,ft,f0)=>
 aA (cH gM i9)
 (bN (ah ed (
 bS NN (fun((dH,dM,gN,gO,gD,eO,ga),ef,gv,ky,jo)=>
 aA (cH ga eO)
 ((cg dH gN).ae (fun ld=>
 (cg dM ga).ae (fun iF=>
 (ja (ik .i64 ld iF) ky).ae (fun iT=>
 aA (cH (bt .i64 gN ga) (aK (aa ef)))
 ((dg (bt .i64 gN ga) (aa ef)).ae (fun Nt=>
 (bL ef (au 0 Nt)).ae (fun np=>
 (ja (bt .i64 np iT) ky).ae (fun qD=>
 (dg (bt .i64 gN ga) (aa ef)).ae (fun BX=>
 (bL ef (au 0 BX)).ae (fun Dt=>
 (aU 0 (aa ef) (aa (br ef (au 0 BX) qD))).ae (fun _=>
 some (wt ((dH,dM,gN,gO,gD,eO,bt .i64 ga 1),br ef (au 0 BX) qD,gv,ky,jo)))))))))
 (aA (bH gv (8:Int))
 ((dg (lv .i64 (bt .i64 gN ga) (4:Int)) (aa ef)).ae (fun tj=>
 (bL ef (au 0 tj)).ae (fun od=>
 (ja (lv .i64 (bt .i64 od ky) iT) ky).ae (fun nO=>
 (dg (lv .i64 (bt .i64 gN ga) (4:Int)) (aa ef)).ae (fun wb=>
 (bL ef (au 0 wb)).ae (fun nq=>
 (aU 0 (aa ef) (aa (br ef (au 0 wb) nO))).ae (fun _=>
 some (wt ((dH,dM,gN,gO,gD,eO,bt .i64 ga 1),br ef (au 0 wb) nO,gv,ky,jo)))))))))
 (ah ef (
 some (wt ((dH,dM,gN,gO,gD,eO,bt .i64 ga 1),ef,gv,ky,jo)))))))))
 ((ah ef (
 some (wt ((gD,dH,dM,gO),ef,gv,ky,jo)))).ae (fun nw=>
 some (AI nw))))
 ((l7,l8,gM,i9,gM,aK (aa l8),(0:Int)),ed,eA,ft,f0)))
 (fun((v5,kP,ig,nt),iU,nP,oO,tg)=>
 ah iU (
 some (wt ((kP,ig,nt,bt .i64 v5 1),iU,nP,oO,tg)))))
 (((lm (aa ed) (aa l3)).ae (fun _=>
 some ed)).ae (fun jC=>
 some (AI jC))))
 ((l4,l5,aK (aa l4),(0:Int)),l6,i0,i1,i2))))
def ON (NN:Nat):((Int×(Int×Int))×(U×(U×U)))->(Option U):=
 (fun((i0,i1,i2),l3,l4,l5)=>
 bN (aA (bH i0 (1:Int))
 (ah l3 (
 some (wt ((true,i0,l4,l5),l3,i0,i1,i2))))
 (ah l3 (
 some (wt ((bH i0 (5:Int),i0,l4,l5),l3,i0,i1,i2)))))
 (fun((b6,i7,l8,l9),cP,fU,eA,ft)=>
 aA (b6)
 ((cg l8 (0:Int)).ae (fun f0=>
 (cg l9 (0:Int)).ae (fun jz=>
 (dg (0:Int) (aa cP)).ae (fun Yc=>
 (bL cP (au 0 Yc)).ae (fun gN=>
 (lm (aa (br cP (au 0 Yc) (jM f0 jz))) (aa l3)).ae (fun _=>
 some (br cP (au 0 Yc) (jM f0 jz))))))))
 (aA (bH i7 (2:Int))
 ((cg l8 (0:Int)).ae (fun gO=>
 (cg l9 (0:Int)).ae (fun gD=>
 (ja (ik .i64 gO gD) eA).ae (fun eO=>
 (dg (0:Int) (aa cP)).ae (fun wa=>
 (bL cP (au 0 wa)).ae (fun iP=>
 (lm (aa (br cP (au 0 wa) eO)) (aa l3)).ae (fun _=>
 some (br cP (au 0 wa) eO))))))))
 (aA (bH i7 (3:Int))
 ((cg l8 (0:Int)).ae (fun gv=>
 (cg l9 (0:Int)).ae (fun ky=>
 (dg (0:Int) (aa cP)).ae (fun FQ=>
 (bL cP (au 0 FQ)).ae (fun ld=>
 (lm (aa (br cP (au 0 FQ) (jM (ik .i64 gv ky) eA))) (aa l3)).ae (fun _=>
 some (br cP (au 0 FQ) (jM (ik .i64 gv ky) eA))))))))
 (aA (bH i7 (4:Int))
 ((cg l8 (0:Int)).ae (fun iF=>
 (cg l9 (0:Int)).ae (fun iT=>
 (dg (0:Int) (aa cP)).ae (fun Nt=>
 (bL cP (au 0 Nt)).ae (fun np=>
 (lm (aa (br cP (au 0 Nt) (jM (bt .i64 iF iT) eA))) (aa l3)).ae (fun _=>
 some (br cP (au 0 Nt) (jM (bt .i64 iF iT) eA))))))))
 (aA (bH i7 (6:Int))
 ((cg l8 (0:Int)).ae (fun qD=>
 (cg l9 (0:Int)).ae (fun rk=>
 (dg (0:Int) (aa cP)).ae (fun Nu=>
 (bL cP (au 0 Nu)).ae (fun oN=>
 (lm (aa (br cP (au 0 Nu) (ub .i64 qD rk))) (aa l3)).ae (fun _=>
 some (br cP (au 0 Nu) (ub .i64 qD rk))))))))
 (ah cP (
 (Ev ((fU,eA,ft),cP,l8,l9)).ae (fun iG=>
 (lm (aa iG) (aa l3)).ae (fun _=>
 some iG))))))))))
theorem HH {α:Type} (a b:Int) (x y:α):aA (bH a b) x y=if a=b then x else y:=by by_cases h:a=b;rw[ai h,be (rN h)];rw[aq h,aW (qw h)]
theorem LM (a b:Int):bH a b=decide (a=b):=by by_cases h:a=b<;>simp[bH,h]
theorem ap5 (a b:Int):gZ a b=decide (a<=b):=rfl
theorem aqe (a b:Int):cH a b=decide (a<b):=rfl
theorem Lv {α:Type} (p:Prop) [Decidable p] (x y:α):aA (decide p) x y=if p then x else y:=by by_cases h:p;rw[ai h,be (decide_eq_true h)];rw[aq h,aW (decide_eq_false h)]
theorem tJ {k p n:Int} (h:dA (k,p,n)=true):(k=1/\p=0/\n=0)\/(k=2/\jA p=true/\n=0)\/(k=3/\(1<=p/\p<=1000000)/\n=0)\/(k=4/\(1<=p/\p<=1000000)/\n=0)\/(k=5/\(1<=p/\p<=1000000)/\n=0)\/ (k=6/\p=0/\1<=n/\n<=20)\/(k=7/\jA p=true/\1<=n/\n<=6)\/(k=8/\jA p=true/\p≠2/\n=0):=by simp only[dA] at h;by_cases b:k=1;simp_all;rw[aq b] at h;by_cases a:k=2;simp_all;rw[aq a] at h;by_cases c:k=3\/k=4\/k=5;grind;rw[aq c] at h;by_cases h4:k=6;simp_all;grind
theorem amB (x:Int×Int×Int) (y:Bool) (h:CA x=some y):Tn bW x=some y:=by
 obtain⟨k,p,n⟩:=x;rw[<-h];simp only[CA,Tn,dA,Cy,bV,LM,ap5,Lv];by_cases f:k=1
 ·grind
 rw[aq f,aq f];by_cases c:k=2
 ·rw[ai c,ai c];cases jA p<;>rfl
 rw[aq c,aq c];have hd:(if k=3 then some (wt ((true,k),k,p,n)) else if k=4 then some (wt ((true,k),k,p,n)) else some (wt ((decide (k=5),k),k,p,n)):Option (((Bool×Int)×Int×Int×Int)⊕Bool))=some (wt ((decide (k=3\/k=4\/k=5),k),k,p,n)):=by
  by_cases b:k=3
  ·simp[b]
  ·by_cases a:k=4
   ·simp[a]
   ·simp[b,a]
 rw[hd,ic];simp only[Lv];by_cases b:k=3\/k=4\/k=5
 ·grind
 rw[aq b,aq b];by_cases a:k=6
 ·grind
 rw[aq a,aq a];by_cases d:k=7
 ·rw[ai d,ai d];cases jA p
  ·rfl
  ·rw[be rfl]
   grind<;>simp[g]
 rw[aq d,aq d];by_cases e:k=8
 ·rw[ai e,ai e];cases jA p
  ·rfl
  ·rw[be rfl,arW,zaf];by_cases g:p=2<;>simp[g,aA]
 simp_all
theorem am6 (x:Int×Int×Int) (y:Bool) (h:G5 x=some y):T4 bW x=some y:=by
 obtain⟨k,p,n⟩:=x;rw[<-h];simp only[G5,T4,dA,CF,oE,bV,LM,aqe,Lv];by_cases f:k=1
 ·grind
 rw[aq f,aq f];by_cases c:k=2
 ·rw[ai c,ai c];cases jA p<;>rfl
 rw[aq c,aq c];have hd:(if k=3 then some (wt ((true,k),k,p,n)) else if k=4 then some (wt ((true,k),k,p,n)) else some (wt ((decide (k=5),k),k,p,n)):Option (((Bool×Int)×Int×Int×Int)⊕Bool))=some (wt ((decide (k=3\/k=4\/k=5),k),k,p,n)):=by
  by_cases b:k=3
  ·simp[b]
  ·by_cases a:k=4
   ·simp[a]
   ·simp[b,a]
 rw[hd,ic];simp only[Lv];by_cases b:k=3\/k=4\/k=5
 ·grind
 rw[aq b,aq b];by_cases a:k=6
 ·grind
 rw[aq a,aq a];by_cases d:k=7
 ·rw[ai d,ai d];cases jA p<;>rfl
 rw[aq d,aq d];by_cases e:k=8
 ·rw[ai e,ai e];cases hp:jA p
  ·rfl
  ·have:=oe hp;rw[be rfl,zaf];by_cases g:p=2
   ·simp[g]
   grind
 simp_all
theorem acU (x:Int×Int×Int) (y:Int) (h:tY x=some y):TO bW x=some y:=by grind [tY,TO,lB,HH]
theorem anc (x:Int×Int×Int) (y:Int) (h:wM x=some y):aa9 bW x=some y:=acU x y h
theorem awf {n:Int} (a:0<=n) (h1:n<=60):Co .i64 1 n=some (2^n.toNat):=by obtain⟨m,rfl⟩:=nU a;rw[awg (by omega),AT];congr 1
theorem agT {n:Int} (h0:0<=n) (h1:n<=20):1<=(2:Int)^n.toNat/\(2:Int)^n.toNat<=1048576:=by have a:(2:Nat)^n.toNat<=2^20:=zbo (by decide) (by omega);grind
theorem acT (x:Int×Int×Int) (y:Int) (h:G0 x=some y):aa7 bW x=some y:=by obtain⟨k,p,n⟩:=x;simp only[G0] at h;split at h;rename_i hr;rw[<-h];rcases tJ hr with⟨rfl,rfl,rfl⟩|⟨rfl,a,rfl⟩|⟨rfl,a,rfl⟩|⟨rfl,a,rfl⟩|⟨rfl,a,rfl⟩|⟨rfl,rfl,hn⟩|⟨rfl,a,hn⟩|⟨rfl,a,kf,rfl⟩;rfl;have:=oe a;exact congrArg some rF;rfl;rfl;rfl;have h1:=agT (n:=n) (by omega) hn.2;show(Co .i64 1 n).ae _=_;rw[awf (by omega) (by omega),bV,rF];rfl;have:=oe a;exact congrArg some rF;have:=oe a;exact congrArg some rF;cases h
theorem anb (x:Int×Int×Int) (y:Int) (h:zf x=some y):aa8 bW x=some y:=acT x y h
theorem Eg {r:Int×Int×Int} (h:dA r=true):0<=dz r/\dz r<=1048576:=by obtain⟨k,p,n⟩:=r;rcases tJ h with⟨rfl,rfl,rfl⟩|⟨rfl,a,rfl⟩|⟨rfl,a,rfl⟩|⟨rfl,a,rfl⟩|⟨rfl,a,rfl⟩|⟨rfl,rfl,hn⟩|⟨rfl,a,hn⟩|⟨rfl,a,kf,rfl⟩;simp[dz];have:=oe a;simp[dz];omega;simp[dz];omega;simp[dz];omega;simp[dz];omega;have h1:=agT (n:=n) (by omega) hn.2;simp only[dz,Int.reduceEq,reduceIte,or_self];omega;have:=oe a;simp[dz];omega;have:=oe a;simp[dz];omega
theorem mE {r:Int×Int×Int} (h:dA r=true):lB r=(ar r:Int)/\1<=ar r/\ar r<=6:=by obtain⟨k,p,n⟩:=r;rcases tJ h with⟨rfl,rfl,rfl⟩|⟨rfl,a,rfl⟩|⟨rfl,a,rfl⟩|⟨rfl,a,rfl⟩|⟨rfl,a,rfl⟩|⟨rfl,rfl,hn⟩|⟨rfl,a,hn⟩|⟨rfl,a,kf,rfl⟩;simp[ar,lB];simp[ar,lB];simp[ar,lB];simp[ar,lB];simp[ar,lB];simp[ar,lB];simp[ar,lB];omega;simp[ar,lB]
theorem amQ (x:(Int×Int×Int)×U) (y:Bool) (h:GW x=some y):TC bW x=some y:=by obtain⟨⟨k,p,n⟩,l⟩:=x;simp only[GW] at h;split at h;rename_i d;obtain⟨hr,hl⟩:=d;rw[<-h];have b:=Eg hr;simp only[TC];rw[show G0 (k,p,n)=some (dz (k,p,n)) from ai hr,bV];generalize dz (k,p,n)=t at b⊢;rw[Jl l (fun i=>(t,l,aK (aa l),(i:Int))) (qF t) (.inr false) (.inl ()) ?_ ?_ ?_ ?_ dY];cases l.all (qF t)<;>rfl;intro i a c b;rw[be (Ao c),dw,c,bV];simp only[qF,decide_eq_true_eq] at b;rw[aW (eB b.1),aW (eB b.2),Gb c (by omega)];intro i a c b;rw[be (Ao c),dw,c,bV];simp only[qF,decide_eq_false_iff_not] at b;by_cases e:a<0;rw[be (dt e)];rw[aW eB,be dt];rw[aW (o7 l)];rfl;cases h
theorem atY {w:Nat} {p:Int} (h:w=1):br (cJ w (0:Int)) 0 p=[p]:=by subst h;rfl
theorem YJ {r:Int×Int×Int} (hr:dA r=true):j6 (lB r) (lB r) 8=some (ar r):=by have a:=mE hr;rw[a.1];exact si (by simp only[fe];omega)
theorem acV (x:Int×Int×Int) (y:U) (h:wL x=some y):TP bW x=some y:=by obtain⟨k,p,n⟩:=x;simp only[wL] at h;split at h;rename_i hr;rw[<-h];simp only[TP,tY,bV];rw[YJ hr,bV,HH];by_cases a:k=4;subst a;rw[ai rfl];rfl;grind [uN,bE,bV,ic,kF,dU];cases h
theorem ane (x:Int×Int×Int) (y:U) (h:AO x=some y):aba bW x=some y:=acV x y h
theorem atX {w:Nat} (h:1<=w):(dg (0:Int) w=some 0)/\bL (cJ w (0:Int)) (au 0 0)=some 0:=by obtain⟨w,rfl⟩:∃v,w=v+1:=⟨w - 1,by omega⟩;exact⟨kU (i:=0) (by omega),rfl⟩
theorem awI {α:Type} {xs:List α} {n:Nat} (h:xs.length=n):dO xs n=some xs:=by subst h;exact kF xs
theorem ana (x:Int×Int×Int) (y:U) (h:G6 x=some y):Ue bW x=some y:=by
 obtain⟨k,p,n⟩:=x;simp only[G6] at h;split at h
 ·rename_i hr;rw[<-h];have f:=mE hr;obtain⟨e,d⟩:=atX f.2.1;have b:∀v:Int,(br (cJ (ar (k,p,n)) (0:Int)) (au 0 0) v).length=ar (k,p,n):=by intro v;simp[br,cJ]
  simp only[Ue,wM,bV];rw[YJ hr,bV,uN,bE,bV,bV,HH];have hd:(if k=5 then some (wt ((true,k),(k,p,n),cJ (ar (k,p,n)) (0:Int))) else some (wt ((bH k 6,k),(k,p,n),cJ (ar (k,p,n)) 0)):Option (((Bool×Int)×(Int×Int×Int)×U)⊕U))=
    some (wt ((decide (k=5\/k=6),k),(k,p,n),cJ (ar (k,p,n)) 0)):=by
   by_cases a:k=5
   ·simp[a]
   ·simp[a,LM]
  rw[hd,ic];simp only[uN,Lv,HH];rw[show zf (k,p,n)=some (dz (k,p,n)) from ai hr]
  simp only[bV,e,d,awI (b _),As];by_cases c:k=4
  ·subst c;rfl
  rw[aq c];by_cases a:k=5\/k=6
  ·rw[ai a,ai a,aq c];rfl
  rw[aq a,aq a,aq c];rfl
 ·cases h
theorem Ku (w:Nat) (f:Nat->Int):(jb w f).length=w:=by simp[jb]
theorem Kt {w j:Nat} (f:Nat->Int) (h:j<w):(jb w f)[j]? =some (f j):=by simp[jb,h]
theorem GL {w:Nat} {f g:Nat->Int} (h:∀j,j<w->f j=g j):jb w f=jb w g:=By fun j a=>h j (zaJ.1 a)
theorem aje {w:Nat} (f:Nat->Int) (j:Nat) (v:Int):(jb w f).set j v=jb w (fun i=>if i=j then v else f i):=by apply IS;intro i;by_cases b:i<w;rw[Kt _ b];by_cases a:j=i;simp_all [Ku];rw[zbp a,Kt _ b,aq (fun e=>a e.symm)];simp_all [List.length_set,Ku]
theorem VV {x:U} {j:Nat} (h:j<x.length):x[j]? =some (cZ x j):=by simp_all [cZ,zan]
theorem LV {w j:Nat} (f:Nat->Int) (h:j<w):cZ (jb w f) j=f j:=by simp[cZ,zan,Kt f h]
theorem OA {x:U} {w:Nat} (h:x.length=w):jb w (cZ x)=x:=by subst h;apply IS;intro i;by_cases a:i<x.length;rw[Kt _ a,VV a];simp_all [Ku]
theorem aaz (w:Nat) (c:Int):cJ w c=jb w fun _=>c:=by apply IS;intro i;by_cases a:i<w;rw[Kt _ a];simp[cJ,a];simp_all [cJ,Ku]
theorem Al (w:Nat) (f:Nat->Int):aa (jb w f)=w:=Ku w f
theorem ak1 {w j:Nat} (f:Nat->Int) (h:j<w):dg (j:Int) (aa (jb w f))=some j:=by rw[Al];exact kU h
theorem aer {w j:Nat} (f:Nat->Int) (h:j<w):bL (jb w f) (au 0 j)=some (f j):=by rw[gW];exact Kt f h
theorem ahU {w:Nat} (f:Nat->Int) (j:Nat) (v:Int):br (jb w f) (au 0 j) v=jb w (fun i=>if i=j then v else f i):=by rw[gW];exact aje f j v
theorem Wk {x:U} {j:Nat} (h:j<x.length:=by omega):cg x (j:Int)=some (cZ x j):=by rw[dw];exact VV h
def y9 (f g:Nat->Int) (i:Nat):Nat->Int:=fun j=>if j<i then f j else g j
theorem awU (w:Nat) (f g:Nat->Int):jb w (y9 f g 0)=jb w g:=GL fun j _=>aq (by omega)
theorem awW (w:Nat) (f g:Nat->Int):jb w (y9 f g w)=jb w f:=GL fun j h=>ai h
theorem awX (w:Nat) (f g:Nat->Int) (i:Nat):br (jb w (y9 f g i)) (au 0 i) (f i)=jb w (y9 f g (i+1)):=by rw[ahU];refine GL fun j _=>?_;grind [y9]
theorem awV (f g:Nat->Int) (i:Nat):y9 f g i i=g i:=aq (by omega)
theorem jf {r:Int×Int×Int} {x:U} (h:eD r x=true):x.length=ar r:=by simp_all [eD,AN,decide_eq_true_eq]
theorem wV {r:Int×Int×Int} {x:U} (h:eD r x=true) {j:Nat} (hj:j<ar r):0<=cZ x j/\cZ x j<=dz r:=by simp only[eD,AN,decide_eq_true_eq] at h;have:=zap.1 h.2 (cZ x j) (IT (VV (by omega)));simpa[qF] using this
theorem Pn {r:Int×Int×Int} {f:Nat->Int} (h:∀j,j<ar r->0<=f j/\f j<=dz r):eD r (jb (ar r) f)=true:=by simp only[eD,AN,decide_eq_true_eq,Ku,true_and,zap];intro v a;obtain⟨j,hj,rfl⟩:=zbh.1 a;simp_all [qF]
theorem Bm {r:Int×Int×Int} {x:U} (h:eD r x=true) (b:ar r=1):x=[cZ x 0]/\0<=cZ x 0/\cZ x 0<=dz r:=by
 have hl:=jf h;rw[b] at hl;match x,hl with
 |[a],_=>exact⟨rfl,wV h (j:=0) (by omega)⟩
theorem rD {a p:Int} (b:0<=a:=by omega) (hp:0<p:=by omega):ja a p=some (a%p):=by obtain⟨m,rfl⟩:=nU (z:=p) (by omega);exact N1 b (by omega)
theorem aqj {a b:Int} (ha:0<=a/\a<=1) (hb:0<=b/\b<=1):sf a b=((a.toNat|||b.toNat:Nat):Int):=by
 have d:a=0\/a=1:=by omega
 have c:b=0\/b=1:=by omega
 rcases d with rfl|rfl<;>rcases c with rfl|rfl<;>rfl
theorem aqn {a b:Int} (ha:0<=a/\a<=1) (hb:0<=b/\b<=1):jM a b=((a.toNat&&&b.toNat:Nat):Int):=by
 have d:a=0\/a=1:=by omega
 have c:b=0\/b=1:=by omega
 rcases d with rfl|rfl<;>rcases c with rfl|rfl<;>rfl
theorem asn {a b:Int} (c:0<=a/\a<=1048576:=by omega) (d:0<=b/\b<=1048576:=by omega):Jx .i64 a b=((a.toNat|||b.toNat:Nat):Int):=by obtain⟨m,rfl⟩:=nU c.1;obtain⟨n,rfl⟩:=nU d.1;exact asm (by omega) (by omega)
theorem aj7 {a b:Int} (c:0<=a/\a<=1048576:=by omega) (d:0<=b/\b<=1048576:=by omega):ub .i64 a b=((a.toNat&&&b.toNat:Nat):Int):=by obtain⟨m,rfl⟩:=nU c.1;obtain⟨n,rfl⟩:=nU d.1;exact aj6 (by omega) (by omega)
theorem Lf {r:Int×Int×Int} {a b:Int} (c:ar r=1):g9 r [a] [b]=[mT r a b]:=by simp only[g9,c];rfl
theorem Gy {f g:Nat->Int}:∀{n:Nat},(∀i,i<n->f i=g i)->sm n f=sm n g
 |0,_=>rfl
 |n+1,h=>by simp only[sm];rw[Gy (n:=n) (fun i hi=>h i (by omega)),h n (by omega)]
def nD (om:Bool) (w:Nat) (x y:Nat->Int) (i j t:Nat):Int:=sm i (fun a=>sm w (fun b=>kW om x y t a b))+sm j (fun b=>kW om x y t i b)
def lG (p:Int) (om:Bool) (w:Nat) (x y:Nat->Int) (i j:Nat):U:=jb w fun t=>nD om w x y i j t%p
theorem alo (p:Int) (om:Bool) (w:Nat) (x y:Nat->Int) (i:Nat):lG p om w x y i w=lG p om w x y (i+1) 0:=by simp_all [nD,sm,zb4,lG]
theorem alm (p:Int) (om:Bool) (w:Nat) (x y:Nat->Int):lG p om w x y 0 0=cJ w 0:=by simp_all [aaz,nD,sm,lG]
theorem aln (p:Int) (om:Bool) (w:Nat) (x y:Nat->Int):lG p om w x y w 0=yb p om w x y:=by simp_all [nD,sm,zb4,lG,yb]
theorem acu (a b p:Int):(a%p+b)%p=(a+b)%p:=by rw[Int.emod_add_emod]
theorem acf {p:Int} {om:Bool} {w:Nat} {x y:Nat->Int} {i j a:Nat} (v:Int) (hp:0<p) (ht:i+j=a\/om=true/\i+j=a+4) (hw:om=true->w=4) (hi:i<w) (hj:j<w) (h0:a<w) (hv:v=(nD om w x y i j a+kW om x y a i j)%p): br (lG p om w x y i j) (au 0 a) v=lG p om w x y i (j+1):=by unfold lG;rw[ahU];refine GL fun t cI=>?_;grind [nD,sm,kW]
theorem alp {p:Int} {om:Bool} {w:Nat} {x y:Nat->Int} {i j:Nat} (h1:w<=i+j) (h2:om=false):lG p om w x y i j=lG p om w x y i (j+1):=by unfold lG;refine GL fun t cI=>?_;grind [nD,sm,kW]
theorem Jr {a b:Int} (d:0<=a/\a<=1048576) (c:0<=b/\b<=1048576):ik .i64 a b=a*b/\0<=a*b/\a*b<=1099511627776:=by have e:0<=a*b:=za5 d.1 c.1;have h1:a*b<=1048576*1048576:=zay d.2 c.2 c.1 (by decide);exact⟨rA,e,by omega⟩
theorem ace {p:Int} {om:Bool} {w:Nat} {x y:Nat->Int} {i j t:Nat} (h:t<w):dg (t:Int) (aa (lG p om w x y i j))=some t/\bL (lG p om w x y i j) (au 0 t)=some (nD om w x y i j t%p):=⟨ak1 _ h,aer _ h⟩
structure OL (k p:Int) (w:Nat):Prop where
 ck:k=7\/k=8
 cp:2<=p/\p<=1000003
 cw:1<=w/\w<=6
 w8:k=8->w=4
theorem O1 {k p n:Int} (h:dA (k,p,n)=true) (b:k=7\/k=8):OL k p (ar (k,p,n)):=by have c:=mE h;refine⟨b,?_,c.2,fun e=>by subst e;rfl⟩;rcases tJ h with⟨rfl,rfl,rfl⟩|⟨rfl,a,rfl⟩|⟨rfl,a,rfl⟩|⟨rfl,a,rfl⟩|⟨rfl,a,rfl⟩|⟨rfl,rfl,hn⟩|⟨rfl,a,hn⟩|⟨rfl,a,kf,rfl⟩;all_goals first|exact oe a|(exfalso;omega)
theorem alr {k p a b:Int} {w i j:Nat} {x y:Nat->Int} (c:OL k p w) (ha:0<=a/\a<=p) (hb:0<=b/\b<=p) (f:x i=a) (n:y j=b) (m:i<w) (l:j<w) (e:i+j<w): ∃v,ja (bt .i64 (nD (decide (k=8)) w x y i j (i+j)%p) (ik .i64 a b)) p=some v/\(∀q,ja (ik .i64 a b) p=some q->ja (bt .i64 (nD (decide (k=8)) w x y i j (i+j)%p) q) p=some v)/\ br (lG p (decide (k=8)) w x y i j) (au 0 (i+j)) v=lG p (decide (k=8)) w x y i (j+1):=by obtain⟨Dl,mQ⟩:=c.cp;obtain⟨m1,m2,m3⟩:=Jr (a:=a) (b:=b) (by omega) (by omega);have s0:=zai (nD (decide (k=8)) w x y i j (i+j)) (b:=p) (by omega);have s1:=Pd (nD (decide (k=8)) w x y i j (i+j)) (b:=p) (by omega);have h:kW (decide (k=8)) x y (i+j) i j=a*b:=(by unfold kW;rw[ai rfl,f,n]);refine⟨(nD (decide (k=8)) w x y i j (i+j)%p+a*b)%p,?_,fun q d=>?_,acf _ (by omega) (.inl rfl) (fun g=>c.w8 (of_decide_eq_true g)) m l e (by rw[h,acu])⟩;rw[m1,dZ,rD];rw[m1,rD] at d;injection d with d;have q0:=zai (a*b) (b:=p) (by omega);have q1:=Pd (a*b) (b:=p) (by omega);rw[<-d,dZ,rD,Int.add_emod_emod]
theorem alq {p a b:Int} {i j:Nat} {x y:Nat->Int} (e:2<=p/\p<=1000003) (ha:0<=a/\a<=p) (hb:0<=b/\b<=p) (f:x i=a) (n:y j=b) (k:i<4) (h:j<4) (cI:4<=i+j): ∃v,ja (bt .i64 (nD true 4 x y i j (i+j - 4)%p) (ik .i64 (lv .i64 p a) b)) p=some v/\(∀q,ja (ik .i64 a b) p=some q->ja (lv .i64 (bt .i64 (nD true 4 x y i j (i+j - 4)%p) p) q) p=some v)/\ br (lG p true 4 x y i j) (au 0 (i+j - 4)) v=lG p true 4 x y i (j+1):=by obtain⟨Dl,mQ⟩:=e;have m:lv .i64 p a=p - a:=rF;obtain⟨m1,m2,m3⟩:=Jr (a:=a) (b:=b) (by omega) (by omega);obtain⟨l,n2,n3⟩:=Jr (a:=p - a) (b:=b) (by omega) (by omega);have s0:=zai (nD true 4 x y i j (i+j - 4)) (b:=p) (by omega);have s1:=Pd (nD true 4 x y i j (i+j - 4)) (b:=p) (by omega);have g:kW true x y (i+j - 4) i j= -(a*b):=(by unfold kW;rw[aq (by omega),ai ⟨rfl,by omega⟩,f,n]);have d:(nD true 4 x y i j (i+j - 4)%p+(p - a)*b)%p=(nD true 4 x y i j (i+j - 4)+ -(a*b))%p:=(by rw[acu];rw[show nD true 4 x y i j (i+j - 4)+(p - a)*b=nD true 4 x y i j (i+j - 4)+ -(a*b)+p*b by grind,Int.add_mul_emod_self_left]);refine⟨(nD true 4 x y i j (i+j - 4)%p+(p - a)*b)%p,?_,fun q c=>?_,acf _ (by omega) (.inr ⟨rfl,by omega⟩) (fun _=>rfl) k h (by omega) (by rw[g,d])⟩;rw[m,l,dZ,rD];rw[m1,rD] at c;injection c with c;have q0:=zai (a*b) (b:=p) (by omega);have q1:=Pd (a*b) (b:=p) (by omega);rw[<-c,dZ,rF,rD,d];congr 1;rw[show nD true 4 x y i j (i+j - 4)%p+p - a*b%p=nD true 4 x y i j (i+j - 4)%p - a*b%p+p by omega,Int.add_emod_right,<-Int.sub_eq_add_neg,Int.sub_emod_emod,Int.emod_sub_emod]
theorem amS (x:(Int×Int×Int)×U×U×U) (z:U) (h:Ev x=some z):TH bW x=some z:=by obtain⟨⟨k,p,n⟩,l,x,y⟩:=x;simp only[Ev] at h;split at h;rename_i L;obtain⟨⟨hr,E⟩,hl,hx,hy⟩:=L;rw[<-h];have c:=O1 hr E;have B:=jf hx;have C:=jf hy;have I:dz (k,p,n)=p - 1:=(by simp only[dz];rw[aq (by omega),aq (by omega),aq (by omega)]);have D:=fun j (d:j<ar (k,p,n))=>wV hx d;have ew:=fun j (d:j<ar (k,p,n))=>wV hy d;rw[I] at D ew;obtain⟨G,J⟩:=c.cp;obtain⟨hw0,hw1⟩:=c.cw;have H:pK (k,p,n) x y=yb p (decide (k=8)) (ar (k,p,n)) (cZ x) (cZ y):=(by simp only[pK];rw[ai E]);rw[H];simp only[TH,ah];have M:vC l 0 (aa l) (cJ (aa l) (0:Int))=some (cJ (ar (k,p,n)) 0):=(by unfold vC;rw[ai (by simp[aa])];simp[cJ,aa,hl]);rw[M,bV,show aa l=ar (k,p,n) from hl,uN,bE,bV];generalize ar (k,p,n)=w at*;rw[gd (fun i=>((x,y,aK (aa x),(i:Int)),lG p (decide (k=8)) w (cZ x) (cZ y) i 0,k,p,n)) w ?a1 ?a2 ?a3 dY];(case a3=>rw[alm];rfl);(case a2=>simp only;rw[aW (eB (by rw[nl,B];omega)),aln,yX (by unfold yb;rw[Al]),bV,bV]);(case a1=>intro i o;simp only;rw[be (dt (by rw[nl,B];omega)),bE,bV];rw[gd (fun j=>((x,y,(i:Int),aK (aa x),(i:Int),aK (aa y),(j:Int)),lG p (decide (k=8)) w (cZ x) (cZ y) i j,k,p,n)) (r:=wt (((i:Int),x,y,aK (aa x)),lG p (decide (k=8)) w (cZ x) (cZ y) i w,k,p,n)) w ?A ?F ?b3 dY];rw[ic];simp only;rw[bE,bV,alo,dZ];rfl;(case b3=>rfl);(case F=>simp only;rw[aW (eB (by rw[nl,C];omega)),bE,bV,bV]);case A=>intro j d;have A:=D i o;have F:=ew j d;simp only;rw[be (dt (by rw[nl,C];omega)),Wk,bV,Wk,bV];obtain⟨m1,m2,m3⟩:=Jr (a:=cZ x i) (b:=cZ y j) (by omega) (by omega);obtain⟨q,s⟩:∃q,ja (ik .i64 (cZ x i) (cZ y j)) p=some q:=⟨_,by rw[m1,rD]⟩;rw[s,bV,dZ (a:=(i:Int)) (by omega) (by omega),dZ (a:=(j:Int)) (by omega) (by omega)];rw[show(i:Int)+(j:Int)=((i+j:Nat):Int) by omega,show(j:Int)+1=((j+1:Nat):Int) by omega];rw[show aa (lG p (decide (k=8)) w (cZ x) (cZ y) i j)=w from Al _ _];by_cases u:i+j<w;obtain⟨v,K,v2,m⟩:=alr c (a:=cZ x i) (b:=cZ y j) (by omega) (by omega) rfl rfl o d u;obtain⟨e,f⟩:=ace (p:=p) (om:=decide (k=8)) (x:=cZ x) (y:=cZ y) (i:=i) (j:=j) u;rw[show aa (lG p (decide (k=8)) w (cZ x) (cZ y) i j)=w from Al _ _] at e;rw[be (dt (by simp only[aK];omega)),e,bV,f,bV,v2 q s,bV,bV,f,bV,m,show aa (lG p (decide (k=8)) w (cZ x) (cZ y) i (j+1))=w from Al _ _,bE,bV];rw[aW (eB (by simp only[aK];omega)),HH];by_cases g:k=8;obtain rfl:=c.w8 g;subst g;obtain⟨v,K,v2,m⟩:=alq (p:=p) (a:=cZ x i) (b:=cZ y j) ⟨G,J⟩ (by omega) (by omega) rfl rfl o d (by omega);obtain⟨e,f⟩:=ace (p:=p) (om:=true) (w:=4) (x:=cZ x) (y:=cZ y) (i:=i) (j:=j) (t:=i+j - 4) (by omega);rw[show aa (lG p true 4 (cZ x) (cZ y) i j)=4 from Al _ _] at e;rw[ai rfl,rF (a:=((i+j:Nat):Int)) (by omega) (by omega),show((i+j:Nat):Int) - 4=((i+j - 4:Nat):Int) by omega];simp only[decide_true];rw[e,bV,f,bV,v2 q s,bV,bV,f,bV,m,show aa (lG p true 4 (cZ x) (cZ y) i (j+1))=4 from Al _ _,bE,bV];rw[aq g,bE,bV,alp (by omega) (decide_eq_false g)]);cases h
theorem uR {r:Int×Int×Int} {a b:Int} (h:¬(r.1=7\/r.1=8)):pK r [a] [b]=[oC r a b]:=by simp only[pK];rw[aq h];rfl
theorem Jj {l:U} (h:l.length=1):∃t,l=[t]:=by
 match l,h with
 |[t],_=>exact⟨t,rfl⟩
theorem Bn {r:Int×Int×Int} {x y:U} (hx:eD r x=true) (hy:eD r y=true) (c:ar r=1):∃a b,x=[a]/\y=[b]/\(0<=a/\a<=dz r)/\0<=b/\b<=dz r:= ⟨_,_,(Bm hx c).1,(Bm hy c).1,(Bm hx c).2,(Bm hy c).2⟩
theorem amT (x:(Int×Int×Int)×U×U×U) (z:U) (h:GY x=some z):ON bW x=some z:=by obtain⟨⟨k,p,n⟩,l,x,y⟩:=x;simp only[GY] at h;split at h;rename_i g;obtain⟨hr,hl,hx,hy⟩:=g;rw[<-h];have hT:=Eg hr;rcases tJ hr with⟨rfl,rfl,rfl⟩|⟨rfl,c,rfl⟩|⟨rfl,c,rfl⟩|⟨rfl,c,rfl⟩|⟨rfl,c,rfl⟩|⟨rfl,rfl,hn⟩|⟨rfl,c,hn⟩|⟨rfl,c,kf,rfl⟩;obtain⟨a,b,rfl,rfl,d,e⟩:=Bn hx hy rfl;obtain⟨t,rfl⟩:=Jj (l:=l) hl;rw[uR (by simp)];show some [jM a b]=some [_];rw[aqn d e];rfl;obtain⟨a,b,rfl,rfl,d,e⟩:=Bn hx hy rfl;obtain⟨t,rfl⟩:=Jj (l:=l) hl;rw[uR (by simp)];have:=oe c;have ht:dz (2,p,0)=p - 1:=rfl;obtain⟨m1,m2,f⟩:=Jr (a:=a) (b:=b) (by omega) (by omega);show(ja (ik .i64 a b) p).ae (fun q=>some [q])=some [_];rw[m1,rD];rfl;obtain⟨a,b,rfl,rfl,d,e⟩:=Bn hx hy rfl;obtain⟨t,rfl⟩:=Jj (l:=l) hl;rw[uR (by simp)];obtain⟨m1,m2,f⟩:=Jr (a:=a) (b:=b) (by omega) (by omega);show some [jM (ik .i64 a b) p]=some [_];rw[m1,F9];rfl;obtain⟨a,b,rfl,rfl,d,e⟩:=Bn hx hy rfl;obtain⟨t,rfl⟩:=Jj (l:=l) hl;rw[uR (by simp)];show some [jM (bt .i64 a b) p]=some [_];rw[dZ,F9];rfl;obtain⟨a,b,rfl,rfl,d,e⟩:=Bn hx hy rfl;obtain⟨t,rfl⟩:=Jj (l:=l) hl;rw[uR (by simp)];show some [jM a b]=some [_];rw[F9];rfl;obtain⟨a,b,rfl,rfl,d,e⟩:=Bn hx hy rfl;obtain⟨t,rfl⟩:=Jj (l:=l) hl;rw[uR (by simp)];show some [ub .i64 a b]=some [_];rw[aj7];rfl;simp only[ON,LM,Int.reduceEq,decide_true,decide_false,Lz,Lw,bE,bV,ic,ah];rw[show Ev ((7,p,n),l,x,y)=some (pK (7,p,n) x y) from ai ⟨⟨hr,.inl rfl⟩,hl,hx,hy⟩,bV,yX (by rw[show aa l=_ from hl];exact Al _ _),bV];simp only[ON,LM,Int.reduceEq,decide_true,decide_false,Lz,Lw,bE,bV,ic,ah];rw[show Ev ((8,p,0),l,x,y)=some (pK (8,p,0) x y) from ai ⟨⟨hr,.inr rfl⟩,hl,hx,hy⟩,bV,yX (by rw[show aa l=_ from hl];exact Al _ _),bV];cases h
theorem vF {r:Int×Int×Int} (hr:dA r=true):eD r (dU r)=true:=by have a:=Eg hr;obtain⟨k,p,n⟩:=r;simp only[dU];split;simp_all [eD,ar,lB,dz,qF];rw[aaz];exact Pn fun j _=>⟨zaB _,a.1⟩
theorem agr (k p n:Int):As (k,p,n)=jb (ar (k,p,n)) fun j=>if j=0 then(if k=4 then 0 else if k=5\/k=6 then dz (k,p,n) else 1) else 0:=by simp only[As];rw[aaz];exact aje _ 0 _
theorem ajp {k p n:Int} (hr:dA (k,p,n)=true):1<=dz (k,p,n):=by rcases tJ hr with⟨rfl,rfl,rfl⟩|⟨rfl,b,rfl⟩|⟨rfl,b,rfl⟩|⟨rfl,b,rfl⟩|⟨rfl,b,rfl⟩|⟨rfl,rfl,hn⟩|⟨rfl,b,hn⟩|⟨rfl,b,kf,rfl⟩;simp[dz];have:=oe b;simp[dz];omega;simp[dz];omega;simp[dz];omega;simp[dz];omega;have a:(2:Nat)^1<=2^n.toNat:=zbo (by decide) (by omega);have e:(((2:Nat)^n.toNat:Nat):Int)=(2:Int)^n.toNat:=(by push_cast;rfl);simp only[dz,Int.reduceEq,reduceIte,or_self];omega;have:=oe b;simp[dz];omega;have:=oe b;simp[dz];omega
theorem alI {r:Int×Int×Int} (hr:dA r=true):eD r (As r)=true:=by obtain⟨k,p,n⟩:=r;have h1:=ajp hr;rw[agr];refine Pn fun j _=>?_;omega
theorem ase {r:Int×Int×Int} (hr:dA r=true) {a b:Int} (l:0<=a/\a<=dz r) (g:0<=b/\b<=dz r):0<=mT r a b/\mT r a b<=dz r:=by have hT:=Eg hr;obtain⟨k,p,n⟩:=r;have f:∀c:Int,2<=p->0<=c%p/\c%p<=p - 1:=fun c h=>(by have q0:=zai c (b:=p) (by omega);have q1:=Pd c (b:=p) (by omega);omega);rcases tJ hr with⟨rfl,rfl,rfl⟩|⟨rfl,d,rfl⟩|⟨rfl,d,rfl⟩|⟨rfl,d,rfl⟩|⟨rfl,d,rfl⟩|⟨rfl,rfl,hn⟩|⟨rfl,d,hn⟩|⟨rfl,d,kf,rfl⟩;have e:dz (1,0,0)=1:=rfl;rw[e] at l g⊢;have i:a=0\/a=1:=(by omega);have j:b=0\/b=1:=(by omega);rcases i with rfl|rfl<;>rcases j with rfl|rfl<;>decide;exact f _ (oe d).1;have e:dz (3,p,0)=p:=rfl;have o:mT (3,p,0) a b=min (a+b) p:=rfl;omega;have o:mT (4,p,0) a b=min a b:=rfl;omega;have o:mT (5,p,0) a b=max a b:=rfl;omega;have e:dz (6,0,n)=2^n.toNat - 1:=rfl;have o:mT (6,0,n) a b=((a.toNat|||b.toNat:Nat):Int):=rfl;have e2:(((2:Nat)^n.toNat:Nat):Int)=(2:Int)^n.toNat:=(by push_cast;rfl);have:=Nat.or_lt_two_pow (n:=n.toNat) (x:=a.toNat) (y:=b.toNat) (by omega) (by omega);omega;exact f _ (oe d).1;exact f _ (oe d).1
theorem acr {r:Int×Int×Int} {x y:U} (hr:dA r=true) (hx:eD r x=true) (hy:eD r y=true):eD r (g9 r x y)=true:= Pn fun _ a=>ase hr (wV hx a) (wV hy a)
theorem ash {r:Int×Int×Int} (hr:dA r=true) (g:¬(r.1=7\/r.1=8)) {a b:Int} (f:0<=a/\a<=dz r) (d:0<=b/\b<=dz r):0<=oC r a b/\oC r a b<=dz r:=by have hT:=Eg hr;obtain⟨k,p,n⟩:=r;simp only at g;rcases tJ hr with⟨rfl,rfl,rfl⟩|⟨rfl,c,rfl⟩|⟨rfl,c,rfl⟩|⟨rfl,c,rfl⟩|⟨rfl,c,rfl⟩|⟨rfl,rfl,hn⟩|⟨rfl,c,hn⟩|⟨rfl,c,kf,rfl⟩;have e:dz (1,0,0)=1:=rfl;rw[e] at f d⊢;have h:a=0\/a=1:=(by omega);have i:b=0\/b=1:=(by omega);rcases h with rfl|rfl<;>rcases i with rfl|rfl<;>decide;have:=oe c;have o:oC (2,p,0) a b=a*b%p:=rfl;have e:dz (2,p,0)=p - 1:=rfl;have q0:=zai (a*b) (b:=p) (by omega);have q1:=Pd (a*b) (b:=p) (by omega);omega;have e:dz (3,p,0)=p:=rfl;have o:oC (3,p,0) a b=min (a*b) p:=rfl;have:=za5 f.1 d.1;omega;have o:oC (4,p,0) a b=min (a+b) p:=rfl;have e:dz (4,p,0)=p:=rfl;omega;have o:oC (5,p,0) a b=min a b:=rfl;omega;have o:oC (6,0,n) a b=((a.toNat&&&b.toNat:Nat):Int):=rfl;have:=Nat.and_le_left (n:=a.toNat) (m:=b.toNat);omega;omega;omega
theorem alH {r:Int×Int×Int} {x y:U} (hr:dA r=true) (hx:eD r x=true) (hy:eD r y=true):eD r (pK r x y)=true:=by by_cases d:r.1=7\/r.1=8;simp only[pK];rw[ai d];obtain⟨k,p,n⟩:=r;have c:=O1 hr d;have h:dz (k,p,n)=p - 1:=(by simp only at d;simp only[dz];rw[aq (by omega),aq (by omega),aq (by omega)]);refine Pn fun j _=>?_;rw[h];have:=c.cp;have q0:=zai (sm (ar (k,p,n)) fun i=>sm (ar (k,p,n)) fun e=>kW (decide (k=8)) (cZ x) (cZ y) j i e) (b:=p) (by omega);have q1:=Pd (sm (ar (k,p,n)) fun i=>sm (ar (k,p,n)) fun e=>kW (decide (k=8)) (cZ x) (cZ y) j i e) (b:=p) (by omega);grind;have f:ar r=1:=(by obtain⟨k,p,n⟩:=r;simp only at d;simp only[ar,lB];rw[aq (by omega),aq (by omega)];rfl);obtain⟨a,b,rfl,rfl,g,l⟩:=Bn hx hy f;rw[uR d];have:=ash hr d g l;simp[eD,f,qF,this]
def ch:Nat->Nat->Nat
 |_,0=>1
 |0,_+1=>0
 |n+1,k+1=>ch n k+ch n (k+1)
theorem O3:∀{n k:Nat},n<k->ch n k=0
 |0,k+1,_=>by simp[ch]
 |n+1,k+1,h=>by simp[ch,O3 (show n<k by omega),O3 (show n<k+1 by omega)]
theorem Lr (n:Nat):ch n 0=1:=by cases n<;>rfl
theorem abR:∀n,ch n n=1
 |0=>rfl
 |n+1=>by simp[ch,abR n,O3 (zbK n)]
theorem O4:∀(n k:Nat),(k+1)*ch (n+1) (k+1)=(n+1)*ch n k
 |0,0=>by simp[ch]
 |0,k+1=>by simp[ch]
 |n+1,0=>by have h:=O4 n 0;simp only[Lr] at h⊢;have e:ch (n+1+1) (0+1)=ch (n+1) 0+ch (n+1) (0+1):=rfl;rw[e,Lr];omega
 |n+1,k+1=>by have h1:=O4 n k;have h2:=O4 n (k+1);have a:ch (n+1+1) (k+1+1)=ch (n+1) (k+1)+ch (n+1) (k+1+1):=rfl;have b:ch (n+1) (k+1)=ch n k+ch n (k+1):=rfl;rw[a];generalize ch (n+1) (k+1+1)=B at*;generalize ch (n+1) (k+1)=A at*;generalize ch n k=u at*;generalize ch n (k+1)=v at*;subst b;grind
def tN (f:Nat->Nat):Nat->Nat
 |0=>0
 |m+1=>tN f m+f m
theorem ajc (n a:Nat):∀m,tN (fun k=>ch (n+1) k*a^k) (m+1)=tN (fun k=>ch n k*a^k) (m+1)+a*tN (fun k=>ch n k*a^k) m
 |0=>by simp[tN,Lr]
 |m+1=>by have h:=ajc n a m;simp only[tN] at h⊢;have e:ch (n+1) (m+1)=ch n m+ch n (m+1):=rfl;rw[h,e,zbn];grind
theorem abG (a:Nat):∀n,(a+1)^n=tN (fun k=>ch n k*a^k) (n+1)
 |0=>by simp[tN,Lr]
 |n+1=>by rw[ajc];have e:tN (fun k=>ch n k*a^k) (n+1+1)=tN (fun k=>ch n k*a^k) (n+1):=(by show tN _ (n+1)+ch n (n+1)*a^(n+1)=_;rw[O3 (zbK n)];simp);rw[e,<-abG a n,zbn];grind
theorem aja {p:Nat} {f:Nat->Nat}:∀m,(∀k,0<k->k<=m->p∣f k)->tN f (m+1)%p=f 0%p
 |0,h=>by simp[tN]
 |m+1,h=>by have i:=aja m fun k b h2=>h k b (by omega);obtain⟨c,a⟩:=h (m+1) (by omega) (OF _);show(tN f (m+1)+f (m+1))%p=_;rw[a,za6,i]
def EC (p:Nat):Prop:=2<=p/\∀d,d∣p->d=1\/d=p
theorem EC.vB {p a:Nat} (c:EC p) (h:¬p∣a):Nat.Coprime p a:=by have:=c.2 (Nat.gcd p a) (Nat.gcd_dvd_left p a);rcases this with b|b;exact b;exact absurd (b▸Nat.gcd_dvd_right p a) h
theorem EC.ch {p k:Nat} (a:EC p) (h1:0<k) (h2:k<p):p∣ch p k:=by obtain⟨q,rfl⟩:∃q,p=q+1:=⟨p - 1,by omega⟩;obtain⟨j,rfl⟩:∃j,k=j+1:=⟨k - 1,by omega⟩;have hm:=O4 q j;have hd:(q+1)∣(j+1)*Go.Am.ch (q+1) (j+1):=⟨Go.Am.ch q j,hm⟩;exact(a.vB fun h=>absurd (zbZ (by omega) h) (by omega)).dvd_of_dvd_mul_left hd
theorem acX {p:Nat} (b:EC p):∀a,a^p%p=a%p
 |0=>by rw[Nat.zero_pow (by have:=b.1;omega)]
 |a+1=>by rw[abG];show(tN _ p+Go.Am.ch p p*a^p)%p=_;obtain⟨q,rfl⟩:∃q,p=q+1:=⟨p - 1,by have:=b.1;omega⟩;have h:=aja (p:=q+1) (f:=fun k=>Go.Am.ch (q+1) k*a^k) q fun k c h2=>zbz (b.ch c (by omega)) (Nat.dvd_mul_right _ _);rw[abR,zaC,zbS,h,acX b a];simp only[Lr,Nat.pow_zero,zcc];rw[<-zbS,zb5]
theorem ann {p a:Nat} (d:EC p) (f:¬p∣a):a*a^(p - 2)%p=1:=by have h2:=d.1;have h:=acX d a;have e:a^p=a*(a*a^(p - 2)):=(by obtain⟨q,rfl⟩:∃q,p=q+2:=⟨p - 2,by omega⟩;rw[zbn,zbn,zbA];rw[zab a (a^q),zab a (a^q*a)]);rw[e] at h;have b:0<a:=(by rcases za2 a with h|h;subst h;exact absurd ⟨0,by simp⟩ f;exact h);have g:0<a*a^(p - 2):=zbR b (Nat.pow_pos b);generalize a*a^(p - 2)=z at h g⊢;obtain⟨y,rfl⟩:∃y,z=y+1:=⟨z - 1,by omega⟩;have hd:p∣a*y:=(by have e:a*(y+1)=a*y+a:=(by rw[Nat.mul_add,zcc]);rw[e] at h;have:(a*y+a - a)%p=0:=Nat.sub_mod_eq_zero_of_mod_eq h;rw[zbA] at this;exact zaz this);obtain⟨c,rfl⟩:=(d.vB f).dvd_of_dvd_mul_left hd;rw[zb5,za6];exact zaq (by omega)
theorem apb {p:Int} (h:jA p=true):EC p.toNat:=by have hp:=oe h;obtain⟨n,rfl⟩:=nU (show 0<=p by omega);simp only[AT];refine⟨by omega,fun d hd=>?_⟩;rcases za1 d 2 with j|j;rcases za2 d with c|c;subst c;have:=Nat.eq_zero_of_zero_dvd hd;omega;exact .inl (by omega);obtain⟨e,g⟩:=hd;simp only[jA,AN,decide_eq_true_eq,zbB,zbC] at h;have k:∀a b:Nat,2<=a->2<=b->a<=b->n≠a*b:=(by intro a b ha hb l e;have h1:a*a<=n:=(by rw[e];exact zbu _ l);have f:a<1001:=(by rcases za1 a 1001 with h|h;exact h;have:=zbW h h;omega);refine h.2 a (by simp;omega) ?_;unfold wS;have m:((a:Int))*(a:Int)=((a*a:Nat):Int):=(by norm_cast);simp only[AN,decide_eq_true_eq];constructor;rw[m];omega;rw[e];push_cast;exact Int.mul_emod_right _ _);right;rcases za1 e 2 with f|f;have:e=1:=(by rcases za2 e with c|c;subst c;simp at g;omega;omega);subst this;omega;exfalso;rcases Nat.le_total d e with i|i;exact k d e j f i g;exact k e d f j i (by rw[g,zab])
theorem agU (x:Int) (b:Nat):∀m:Nat,(x*x)^m*x^b=x^(2*m+b)
 |0=>by simp
 |m+1=>by have a:=agU x b m;rw[show 2*(m+1)+b=2*m+b+1+1 by omega,zaL,zaL (n:=2*m+b+1),zaL (n:=2*m+b),<-a];grind
theorem ao5 {p:Int} (hp:tC p):∀(n:Nat) (out x:Int),Aa p out x n%p=out*x^n%p:=by intro n;induction n using Nat.strongRecOn with|ind n a=>intro out x;by_cases c:n=0;subst c;rw[ao4];simp;rw[ao6 c,a (n/2) (by omega)];have e:x^n=(x*x)^(n/2)*x^(n%2):=(by rw[agU,zaV]);rw[e];have d:((x*x%p)^(n/2))%p=((x*x)^(n/2))%p:=(by have:∀k:Nat,((x*x%p)^k)%p=((x*x)^k)%p:=(by intro k;induction k with|zero=>simp|succ k a=>rw[zaL,zaL,zad,a,zaG,<-zad]);exact this _);by_cases b:n%2=1;rw[ai b,b,zad,d,zaG,<-zad];congr 1;grind;rw[aq b,show n%2=0 by omega,zad,d,<-zad];congr 1;grind
theorem ao8 {p x:Int} (b:jA p=true) (hx:v8 p x) (h0:x≠0):x*Aa p 1 x (p - 2).toNat%p=1:=by have d:=oe b;have i:tC p:=⟨d.1,d.2⟩;obtain⟨n,rfl⟩:=nU (show 0<=p by omega);obtain⟨a,rfl⟩:=nU hx.1;have c:=apb b;simp only[AT] at c;have g:¬n∣a:=fun h=>(by have:=zbZ (by omega) h;have:=hx.2;omega);have f:=ann c g;have e:(((n:Int)) - 2).toNat=n - 2:=(by omega);rw[zad,ao5 i,e,zbs,<-zad];exact_mod_cast f
def kS (f g:Nat->Int):Nat->Int
 |0=>0
 |n+1=>kS f g n+f n*g n
theorem ai7 {p:Int} {f f' g:Nat->Int}:∀n,(∀k,k<n->∃q,f k=f' k+p*q)->∃q,kS f g n=kS f' g n+p*q
 |0,_=>⟨0,by simp[kS]⟩
 |n+1,h=>by obtain⟨q,b⟩:=ai7 (g:=g) n fun k hk=>h k (by omega);obtain⟨c,a⟩:=h n (by omega);exact⟨q+c*g n,by simp only[kS,b,a];grind⟩
theorem aam (f a g:Nat->Int) (c:Int):∀n,kS (fun k=>f k+c*a k) g n=kS f g n+c*kS a g n
 |0=>by simp[kS]
 |n+1=>by simp only[kS,aam f a g c n];grind
theorem SM (f g a:Nat->Int) (c:Int):∀n,kS f (fun k=>g k - c*a k) n=kS f g n - c*kS f a n
 |0=>by simp[kS]
 |n+1=>by simp only[kS,SM f g a c n];grind
theorem aan (f g:Nat->Int) (c:Int):∀n,kS (fun k=>f k*c) g n=kS f g n*c
 |0=>by simp[kS]
 |n+1=>by simp only[kS,aan f g c n];grind
theorem aao (f g:Nat->Int) (c:Int):∀n,kS f (fun k=>g k*c) n=kS f g n*c
 |0=>by simp[kS]
 |n+1=>by simp only[kS,aao f g c n];grind
def dl (a b:Nat):Int:=if a=b then 1 else 0
def qT (p:Int) (n:Nat) (E X:fI):Prop:=∀a,a<n->∀b,b<n->∃q,kS (E a) (fun k=>X k b) n=dl a b+p*q
theorem qT.congr {p:Int} {n:Nat} {E c X:fI} (h:qT p n E X) (i:∀a,a<n->∀k,k<n->∃q,c a k=E a k+p*q):qT p n c X:=by intro a d b e;obtain⟨q,l⟩:=h a d b e;obtain⟨m,j⟩:=ai7 (p:=p) (f:=c a) (f':=E a) (g:=fun k=>X k b) n (i a d);exact⟨q+m,by rw[j,l];grind⟩
theorem qT.swap {p:Int} {n:Nat} {E X:fI} (h:qT p n E X) {s t:Nat} (r:s<n) (v:t<n):∃o,qT p n (ve E s t) o:=by
 let c:Nat->Nat:=fun i=>if i=s then t else if i=t then s else i
 have f:∀i,i<n->c i<n:=by
  intro i m;show(if i=s then t else if i=t then s else i)<n
  split
  ·exact v
  ·split
   ·exact r
   ·exact m
 have l:∀i j,c i=c j->i=j:=by
  intro i j;show(if i=s then t else if i=t then s else i)=(if j=s then t else if j=t then s else j)->i=j
  intro h
  repeat' split at h
  all_goals omega
 refine⟨fun k b=>X k (c b),fun a u b g=>?_⟩;obtain⟨q,w⟩:=h (c a) (f a u) (c b) (f b g);refine⟨q,?_⟩;have e:ve E s t a=E (c a):=by
  funext k;show(if a=s then E t k else if a=t then E s k else E a k)=E (if a=s then t else if a=t then s else a) k
  split
  ·rfl
  ·split<;>rfl
 rw[e,w];congr 1;unfold dl;by_cases d:a=b
 ·subst d;simp
 ·rw[aq d,aq fun h=>d (l _ _ h)]
theorem qT.avW {p inv u:Int} {n:Nat} {E X:fI} (h:qT p n E X) {t:Nat} (ht:t<n) (hu:u*inv%p=1):∃j,qT p n (Gt p inv E t) j:=by
 have l:∃z,u*inv=1+p*z:=⟨u*inv/p,by have:=zaM (u*inv) p;omega⟩;obtain⟨z,hz⟩:=l;refine⟨fun k b=>if b=t then X k t*u else X k b,qT.congr (E:=fun a k=>if a=t then E t k*inv else E a k) (fun a g b i=>?_) (fun a g k hk=>?_)⟩
 ·obtain⟨q,f⟩:=h a g b i;by_cases c:a=t
  ·subst c;by_cases d:b=a
   ·subst d;refine⟨z+q*inv*u,?_⟩;simp only[if_true];rw[aan,aao,f,dl,ai rfl]
    grind
   ·refine⟨q*inv,?_⟩;simp only[if_true,aq d];rw[aan,f,dl,aq (Ne.symm d)]
    grind
  ·by_cases d:b=t
   ·subst d;refine⟨q*u,?_⟩;simp only[aq c,if_true];rw[aao];have:kS (fun k=>E a k) (fun k=>X k b) n=dl a b+p*q:=f;rw[this,dl,aq c]
    grind
   ·refine⟨q,?_⟩;simp only[aq c,aq d];exact f
 ·unfold Gt;by_cases c:a=t
  ·simp only[c,if_true];refine⟨-(E t k*inv/p),?_⟩;have:=zaM (E t k*inv) p;have e:p* -(E t k*inv/p)= -(p*(E t k*inv/p)):=zcd _ _;omega
  ·simp only[c,if_false];exact⟨0,by simp⟩
theorem qT.add {p f:Int} {n:Nat} {E v X:fI} (h:qT p n E X) {m t:Nat} (hm:m<n) (z:t<n) (x:m≠t) (B:∀a,a<n->∀k,k<n->∃q,v a k=(if a=m then E m k+f*E t k else E a k)+p*q):∃I,qT p n v I:=by
 refine⟨fun k b=>if b=t then X k t - f*X k m else X k b,qT.congr (E:=fun a k=>if a=m then E m k+f*E t k else E a k) (fun a y b s=>?_) B⟩
 obtain⟨d,G⟩:=h a y b s;obtain⟨j,J⟩:=h t z b s;obtain⟨o,D⟩:=h a y m hm;obtain⟨r,A⟩:=h t z m hm;have g:kS (fun k=>E a k) (fun k=>X k b) n=dl a b+p*d:=G;have w:kS (fun k=>E t k) (fun k=>X k b) n=dl t b+p*j:=J;have u:kS (fun k=>E a k) (fun k=>X k m) n=dl a m+p*o:=D;have l:kS (fun k=>E t k) (fun k=>X k m) n=dl t m+p*r:=A;have H:dl t m=0:=aq (Ne.symm x);by_cases i:a=m
 ·subst i;have C:dl a a=1:=ai rfl;by_cases c:b=t
  ·subst c;have e:dl a b=0:=aq x;have F:dl b b=1:=ai rfl;refine⟨d+f*j - f*o - f*f*r,?_⟩;simp only[if_true];rw[aam,SM,SM,g,w,u,l,H,C,e,F]
   grind
  ·refine⟨d+f*j,?_⟩;have e:dl t b=0:=aq (Ne.symm c);simp only[if_true,aq c];rw[aam,g,w,e]
   grind
 ·by_cases c:b=t
  ·subst c;have e:dl a m=0:=aq i;refine⟨d - f*o,?_⟩;simp only[aq i,if_true];rw[SM,g,u,e]
   grind
  ·refine⟨d,?_⟩;simp only[aq i,aq c];exact g
def RK (p:Int) (n:Nat) (s:fI×U×Int) (j:Nat):Prop:=
 (∃X,qT p n (fun a k=>s.1 a (n+k)) X)/\∀b,b<j->∀i,s.2.1.length<=i->i<n->s.1 i b=0
theorem RK.step {p:Int} {n:Nat} {s:fI×U×Int} {j:Nat} (G:jA p=true) (T:j<2*n) (I:RI p n (2*n) s j) (h:RK p n s j):RK p n (Ce p n s j) (j+1):=by
 have S:tC p:=oe G;obtain⟨⟨X,r⟩,g⟩:=h;obtain⟨M,L,d⟩:=s;simp only at r g;by_cases hl:L.length<n
 ·cases hk:Cb M j (n - L.length) L.length with
  |none=>
   rw[atJ (s:=(M,L,d)) hl hk];refine⟨⟨X,r⟩,fun b w i e o=>?_⟩;by_cases A:b=j
   ·subst A;exact agO hk i e (by simp only at e;omega)
   ·exact g b (by omega) i e o
  |some k=>
   rw[atK (s:=(M,L,d)) hl hk];simp only
   have O:=Za hk;have v:k<n:=by omega
   have N:v7 p n (2*n) M:=I.m;have hx:v8 p (M k j):=N k v j T;have V:ve M L.length k L.length j=M k j:=ai rfl;have z:=ao8 G hx O.2.2;generalize anW:Aa p 1 (M k j) (p - 2).toNat=inv at z;have D:NX p M L.length j k=Gt p inv (ve M L.length k) L.length:=by unfold NX;rw[V,anW]
   rw[D];have Q:v7 p n (2*n) (ve M L.length k):=ajd N hl v;generalize Ih:Gt p inv (ve M L.length k) L.length=M2;have axn:v7 p n (2*n) M2:=by rw[<-Ih];exact ahN S Q _
   constructor
   ·obtain⟨X1,x⟩:=r.swap (s:=L.length) (t:=k) hl v;obtain⟨J,P⟩:=x.avW (inv:=inv) (u:=M k j) hl z;have base:qT p n (fun a b=>n6 p M2 L.length j 0 a (n+b)) J:=by
     rw[ak3,<-Ih];exact P
    have R:∀m,m<=n->∃B,qT p n (fun a b=>n6 p M2 L.length j m a (n+b)) B:=by
     intro m;induction m with
     |zero=>intro _;exact⟨J,base⟩
     |succ m W=>
      intro hm;obtain⟨B,l⟩:=W (by omega);by_cases C:m=L.length
      ·subst C;rw[ak6];exact⟨B,l⟩
      ·refine l.add (f:=p - M2 m j) (m:=m) (t:=L.length) (by omega) hl C fun a ha b w=>?_;show∃q,n6 p M2 L.length j (m+1) a (n+b)=_;by_cases H:a=m
       ·subst H;rw[ai rfl];show∃q,n6 p M2 L.length j (a+1) a (n+b)=(n6 p M2 L.length j a a (n+b)+(p - M2 a j)*n6 p M2 L.length j a L.length (n+b))+p*q;rw[ak5,ak7];unfold n6;rw[ai ⟨by omega,C⟩];refine⟨-((M2 a (n+b)+(p - M2 a j)*M2 L.length (n+b))/p),?_⟩;have e1:=zaM (M2 a (n+b)+(p - M2 a j)*M2 L.length (n+b)) p;have F:=zcd p ((M2 a (n+b)+(p - M2 a j)*M2 L.length (n+b))/p);omega
       ·rw[aq H];refine⟨0,?_⟩;show n6 p M2 L.length j (m+1) a (n+b)=n6 p M2 L.length j m a (n+b)+p*0;unfold n6;by_cases y:a<m/\a≠L.length
        ·rw[ai y,ai ⟨by omega,y.2⟩];simp
        ·rw[aq y,aq (by omega)];simp
    exact R n (OF _)
   ·intro b w i e o;simp only[zas,zaj,zaF] at e;show n6 p M2 L.length j n i b=0;unfold n6;rw[ai ⟨o,by omega⟩];have F:∀c,M2 i c=ve M L.length k i c:=fun c=>by rw[<-Ih];exact aq (by omega)
    have K:∀c,M2 L.length c=M k c*inv%p:=fun c=>by rw[<-Ih];show(if L.length=L.length then _ else _)=_;rw[ai rfl];congr 2;exact ai rfl
    by_cases A:b=j
    ·subst A;rw[K b,z];have:M2 i b+(p - M2 i b)*1=p:=by omega
     rw[this];exact Int.emod_self
    ·have E:b<j:=by omega
     rw[K b,g b E k O.1 v,F b];have:ve M L.length k i b=0:=by
      unfold ve;rw[aq (by omega)];split
      ·exact g b E L.length (OF _) hl
      ·exact g b E i (by omega) o
     rw[this];simp
 ·unfold Ce;rw[aq hl];exact⟨⟨X,r⟩,fun b w i e o=>by simp only at e;omega⟩
def aw7 (n:Nat) (M:fI):fI:=fun a b=>if b<n then M a b else dl a (b - n)
def aw8 (n:Nat) (M:fI):fI:=ofD (2*n) (ael n (2*n) (aw7 n M))
def afb (p:Int) (n:Nat) (M:fI):fI×U×Int:=ahh p n (aw8 n M) (2*n)
def ao7 (p:Int) (n:Nat) (M:fI):Prop:=∀i,i<n->(afb p n M).2.1.getD i 0=(i:Int)
instance (p:Int) (n:Nat) (M:fI):Decidable (ao7 p n M):=inferInstanceAs (Decidable (∀i,i<n->(afb p n M).2.1.getD i 0=(i:Int)))
section
variable {p:Int} {n:Nat} {M R:fI} {L:U}
end
abbrev oF:=Int×Int×U
abbrev S9:=Int×Int×U×List (Int×Int×U)×U
def SZ (k:Nat) (w:U):Prop:=∀c∈w,0<=c/\c<(k:Int)
instance (k:Nat) (w:U):Decidable (SZ k w):=inferInstanceAs (Decidable (∀c∈w,0<=c/\c<(k:Int)))
def aki (x:S9):Bool:=match x with
 |(m,n,a,ms,b)=>jA m&&(decide (0<=n/\n<=24)&&((wB m a&&decide ((a.length:Int)=n))&&((wB m b&&decide ((b.length:Int)=n))&&(decide (1<=ms.length/\ms.length<=4)&&ms.all fun y=>decide (y.1=n/\y.2.1=n/\y.2.2.length=n.toNat*n.toNat)&&wB m y.2.2))))
def ahd (x:S9×U):Prop:=aki x.1=true/\SZ x.1.2.2.2.1.length x.2/\x.2.length<=1048576
instance (x:S9×U):Decidable (ahd x):=by unfold ahd;infer_instance
theorem RB {m:Int} {l:U}:wB m l=true↔vp m l:=by simp only[wB,vp,zap,DA,decide_eq_true_eq,v8]
structure KH (N:Nat) (p:Int) (n:Nat) (a:U) (ms:List oF) (b:U):Prop where
 pr:jA p=true
 hn:n<=N
 al:a.length=n
 ap:vp p a
 bl:b.length=n
 bp:vp p b
 l1:1<=ms.length
 l4:ms.length<=4
 hm:∀x∈ms,∃M:fI,x=((n:Int),(n:Int),ael n n M)/\v7 p n n M
abbrev ajO:=KH 12
abbrev ajN:=KH 24
theorem KH.p {N:Nat} {p:Int} {n:Nat} {a b:U} {ms:List oF} (h:KH N p n a ms b):tC p:=oe h.pr
theorem KH.b {p:Int} {n:Nat} {a b:U} {ms:List oF} (h:ajO p n a ms b):ajN p n a ms b:=⟨h.pr,zb6 h.hn (by omega),h.al,h.ap,h.bl,h.bp,h.l1,h.l4,h.hm⟩
section
variable {p sg:Int} {n m:Nat} {a b a2 b2:U} {ms YM:List oF}
end
section
variable {n a b:Int} {d:List (Int×Int)}
end
def wz (b a:Int) (l:U):U:=l.map fun x=>if x=b then a else x
def CQ (l:U) (i:Int):Int:=l.getD i.toNat 0
def DC (n:Nat):U:=(zao n).map fun i=>((i:Nat):Int)
def JA (s:Nat) (i:Nat) (st:Int×U) (e:Int×Int):Int×U:=
 if s.testBit i=true/\CQ st.2 e.1≠CQ st.2 e.2 then(st.1 - 1,wz (CQ st.2 e.2) (CQ st.2 e.1) st.2) else st
def parts (n:Int) (es:List (Int×Int)) (s:Int):Int×U:=zE (JA s.toNat) 0 (n,DC n.toNat) es
def Yq (s:Nat) (i:Nat) (l:U) (e:Int×Int):U:=
 if s.testBit i=true then wz (max (CQ l e.1) (CQ l e.2)) (min (CQ l e.1) (CQ l e.2)) l else l
def VP (l:U):Int:=((zao l.length).countP fun i=>l.getD i 0==(i:Int):Nat)
theorem X5 (n:Nat):(DC n).length=n:=by simp[DC]
theorem Zn (b a:Int) (l:U):(wz b a l).length=l.length:=by simp[wz]
theorem NH (a b:Int):jM a b=min a b:=by unfold jM;split<;>omega
theorem afZ (a b:Int):sf a b=max a b:=by unfold sf;split<;>omega
theorem ab9 (p:Nat->Bool) (j:Nat):(zao (j+1)).countP p=(zao j).countP p+(if p j=true then 1 else 0):=by rw[zbT,List.countP_append,List.countP_singleton]
theorem ab8 (p q:Nat->Bool) (k:Nat):∀n,k<n->(∀i,i<n->i≠k->p i=q i)->p k=true->q k=false->(zao n).countP p=(zao n).countP q+1
 |0,h,_,_,_=>by omega
 |n+1,h,Xh,h1,h2=>by rw[ab9,ab9];by_cases b:k=n;subst b;rw[h1,h2];have:(zao k).countP p=(zao k).countP q:=List.countP_congr fun i a=>(by have:=zaJ.1 a;rw[Xh i (by omega) (by omega)]);rw[this];simp;rw[ab8 p q k n (by omega) (fun i a=>Xh i (by omega)) h1 h2,Xh n (by omega) (by omega)];omega
structure Lc (m:Nat) (l:U) (c:Int) (q:U):Prop where
 ll:l.length=m
 lq:q.length=m
 mW:∀i j:Nat,i<m->j<m->(l.getD i 0=l.getD j 0↔q.getD i 0=q.getD j 0)
 low:∀i:Nat,i<m->0<=l.getD i 0/\l.getD i 0<=(i:Int)/\l.getD (l.getD i 0).toNat 0=l.getD i 0
 uh:VP l=c
theorem ahm {b a:Int} {l:U} {i:Nat} (h:i<l.length):(wz b a l).getD i 0=if l.getD i 0=b then a else l.getD i 0:=by simp[wz,zb2,zac,co h]
theorem atT (b:Int) (l:U):wz b b l=l:=by
 unfold wz
 conv=>rhs;rw[<-List.map_id l]
 refine By fun x _=>?_;split
 ·rename_i h;exact h.symm
 ·rfl
theorem af2 {b a x y:Int}:((if x=b then a else x)=(if y=b then a else y))↔(x=y\/((x=b\/x=a)/\(y=b\/y=a))):=by constructor;intro h;split at h<;>split at h<;>omega;intro h;split<;>split<;>omega
theorem Lc.step {m:Nat} {l:U} {c:Int} {q:U} (h:Lc m l c q) {u v:Nat} (o:u<m) (n:v<m) {s i:Nat}:
  Lc m (Yq s i l ((u:Int),(v:Int))) (JA s i (c,q) ((u:Int),(v:Int))).1 (JA s i (c,q) ((u:Int),(v:Int))).2:=by
 cases f:s.testBit i with
 |false=>
  have t:Yq s i l ((u:Int),(v:Int))=l:=aq (by rw[f];decide);have C:JA s i (c,q) ((u:Int),(v:Int))=(c,q):=aq (fun hh=>by rw[f] at hh;exact absurd hh.1 (by decide));rw[t,C];exact h
 |true=>
  have V:q.getD u 0=q.getD v 0->JA s i (c,q) ((u:Int),(v:Int))=(c,q):=fun h=>aq (fun hh=>hh.2 h);have S:q.getD u 0≠q.getD v 0->JA s i (c,q) ((u:Int),(v:Int))=(c - 1,wz (q.getD v 0) (q.getD u 0) q):=fun h=>ai ⟨f,h⟩;have M:Yq s i l ((u:Int),(v:Int))=wz (max (l.getD u 0) (l.getD v 0)) (min (l.getD u 0) (l.getD v 0)) l:=ai f;obtain⟨ll,lq,mW,low,uh⟩:=h;by_cases p:q.getD u 0=q.getD v 0
  ·have hl:=(mW u v o n).2 p;rw[V p,M,hl,Int.max_self,Int.min_self,atT];exact⟨ll,lq,mW,low,uh⟩
  ·have hl:l.getD u 0≠l.getD v 0:=fun e=>p ((mW u v o n).1 e);rw[S p,M];obtain⟨w,H,A⟩:=low u o;obtain⟨I,r,B⟩:=low v n;obtain⟨lo,d,t,C,cI,N,z,O,L,k⟩:∃lo d:Nat,min (l.getD u 0) (l.getD v 0)=(lo:Int)/\max (l.getD u 0) (l.getD v 0)=(d:Int)/\lo<d/\
     (∀x:Int,(x=(d:Int)\/x=(lo:Int))↔(x=l.getD v 0\/x=l.getD u 0))/\lo<m/\l.getD lo 0=(lo:Int)/\l.getD d 0=(d:Int)/\d<m:=by
    obtain⟨a,F⟩:=nU w;obtain⟨b,f⟩:=nU I;rw[F,AT] at A;rw[f,AT] at B;rw[F] at H hl;rw[f] at r hl;rw[F,f];rcases za1 a b with J|J
    ·exact⟨a,b,by omega,by omega,J,fun x=>by omega,by omega,A,B,by omega⟩
    ·exact⟨b,a,by omega,by omega,by omega,fun x=>by omega,by omega,B,A,by omega⟩
   rw[t,C];have g:∀j,j<m->(wz (d:Int) (lo:Int) l).getD j 0=if l.getD j 0=(d:Int) then(lo:Int) else l.getD j 0:=fun j D=>ahm (by omega)
   have K:∀j,j<m->(wz (q.getD v 0) (q.getD u 0) q).getD j 0=if q.getD j 0=q.getD v 0 then q.getD u 0 else q.getD j 0:=fun j D=>ahm (by omega)
   refine⟨by rw[Zn];exact ll,by rw[Zn];exact lq,?_,?_,?_⟩
   ·intro x y hx hy;rw[g x hx,g y hy,K x hx,K y hy,af2,af2,N,N,mW x y hx hy,mW x u hx o,mW x v hx n,mW y u hy o,mW y v hy n]
   ·intro x hx;obtain⟨Q,R,T⟩:=low x hx;rw[g x hx];by_cases E:l.getD x 0=(d:Int)
    ·rw[ai E];refine⟨by omega,by omega,?_⟩;rw[AT,g lo z,O,aq (by omega)]
    ·rw[aq E];refine⟨Q,R,?_⟩;rw[g _ (by omega),T,aq E]
   ·have P:=ab8 (fun j=>l.getD j 0==(j:Int)) (fun j=>(wz (d:Int) (lo:Int) l).getD j 0==(j:Int)) d m k ?_ (by rw[L];simp) (by rw[g d k,ai L];simp;omega)
    ·unfold VP at uh⊢;rw[Zn,ll];rw[ll,P] at uh;omega
    ·intro j D bm;rw[g j D];by_cases G:l.getD j 0=(d:Int)
     ·rw[ai G,G,zbL];simp only[beq_iff_eq];constructor
      ·intro h;omega
      ·intro h;have:lo=j:=by omega
       subst this;omega
     ·rw[aq G]
theorem X4 {m i:Nat} (h:i<m):(DC m).getD i 0=(i:Int):=by simp[DC,zb2,zac,zbt h]
theorem Lc.init (m:Nat):Lc m (DC m) (m:Int) (DC m):=by refine⟨X5 m,X5 m,fun _ _ _ _=>Iff.rfl,fun i a=>?_,?_⟩;rw[X4 a,AT,X4 a];omega;unfold VP;rw[X5];have:(zao m).countP (fun i=>(DC m).getD i 0==(i:Int))=(zao m).length:=(by rw[List.countP_eq_length];intro i a;rw[X4 (zaJ.1 a)];simp);rw[this,zbE]

def cS (om:Bool) (w:Nat) (x y:Nat->Int) (t:Nat):Int:=sm w (fun i=>sm w (fun j=>kW om x y t i j))
def pc (x y:Nat->Int) (t:Nat):Int:=sm (t+1) (fun i=>x i*y (t - i))
theorem Gz:∀(n:Nat) {f:Nat->Int},(∀i,i<n->f i=0)->sm n f=0
 |0,_,_=>rfl
 |n+1,f,h=>by simp only[sm];rw[Gz n (fun i hi=>h i (by omega)),h n (by omega)];rfl
theorem ZZ {a:Nat} {f:Nat->Int}:∀(n:Nat),a<n->(∀i,i<n->i≠a->f i=0)->sm n f=f a
 |0,h,_=>by omega
 |n+1,h,hf=>by simp only[sm];by_cases e:a=n;subst e;rw[Gz a (fun i c=>hf i (by omega) (by omega))];omega;rw[ZZ n (by omega) (fun i c b=>hf i (by omega) b),hf n (by omega) (by omega)];omega
theorem aiy {m:Nat} {f:Nat->Int}:∀(n:Nat),m<=n->(∀i,i<n->m<=i->f i=0)->sm n f=sm m f
 |0,h,_=>by rw[show m=0 by omega]
 |n+1,h,hf=>by by_cases e:m=n+1;rw[e];simp only[sm];rw[aiy n (by omega) (fun i hi hm=>hf i (by omega) hm),hf n (by omega) (by omega)];omega
theorem Z1 {p:Int} {f g:Nat->Int}:∀{n:Nat},(∀i,i<n->f i%p=g i%p)->sm n f%p=sm n g%p
 |0,_=>rfl
 |n+1,h=>by simp only[sm];rw[zb7,Z1 (n:=n) (fun i hi=>h i (by omega)),h n (by omega),<-zb7]
theorem Ln {w t:Nat} (x y:Nat->Int) (h:t<w):cS false w x y t=pc x y t:=by
 have d:∀i,i<w->sm w (fun j=>kW false x y t i j)=if i<=t then x i*y (t - i) else 0:=by
  intro i b;split
  ·rename_i w9;rw[ZZ (a:=t - i) w (by omega) (fun j c bm=>by unfold kW;rw[aq (by omega),aq (by simp)])];unfold kW;rw[ai (by omega)]
  ·exact Gz w fun j c=>by unfold kW;rw[aq (by omega),aq (by simp)]
 unfold cS pc;rw[Gy d,aiy (m:=t+1) w (by omega) (fun i b hm=>aq (by omega))];exact Gy fun i b=>ai (by omega)
theorem arY {p a b:Int} (c:a%p=b%p):(-a)%p=(-b)%p:=by
 have:(0 - a)%p=(0 - b)%p:=by rw[zb8,c,<-zb8]
 simpa using this
theorem abK {om:Bool} {w t:Nat} {p:Int} {x x' y y':Nat->Int} (hx:∀i,i<w->x i%p=x' i%p) (hy:∀i,i<w->y i%p=y' i%p):cS om w x y t%p=cS om w x' y' t%p:=by refine Z1 fun i b=>Z1 fun j a=>?_;have hm:(x i*y j)%p=(x' i*y' j)%p:=(by rw[zad,hx i b,hy j a,<-zad]);unfold kW;split;exact hm;split;exact arY hm;rfl
theorem U4 {om:Bool} {w t:Nat} {x x' y y':Nat->Int} (hx:∀i,i<w->x i=x' i) (hy:∀i,i<w->y i=y' i):cS om w x y t=cS om w x' y' t:= Gy fun i b=>Gy fun j a=>by unfold kW;rw[hx i b,hy j a]
theorem atf (x y z:Nat->Int) {t:Nat} (h:t<6):pc (pc x y) z t=pc x (pc y z) t:=by
 match t,h with
 |0,_=>simp only[pc,sm,Nat.reduceSub,Nat.reduceAdd,zat];try grind
 |1,_=>simp only[pc,sm,Nat.reduceSub,Nat.reduceAdd,zat];try grind
 |2,_=>simp only[pc,sm,Nat.reduceSub,Nat.reduceAdd,zat];try grind
 |3,_=>simp only[pc,sm,Nat.reduceSub,Nat.reduceAdd,zat];try grind
 |4,_=>simp only[pc,sm,Nat.reduceSub,Nat.reduceAdd,zat];try grind
 |5,_=>simp only[pc,sm,Nat.reduceSub,Nat.reduceAdd,zat];try grind
theorem EM (x y:Nat->Int):cS true 4 x y 0=x 0*y 0 - x 1*y 3 - x 2*y 2 - x 3*y 1:=by simp[cS,sm,kW];grind
theorem EN (x y:Nat->Int):cS true 4 x y 1=x 0*y 1+x 1*y 0 - x 2*y 3 - x 3*y 2:=by simp[cS,sm,kW];grind
theorem EO (x y:Nat->Int):cS true 4 x y 2=x 0*y 2+x 1*y 1+x 2*y 0 - x 3*y 3:=by simp[cS,sm,kW];grind
theorem EP (x y:Nat->Int):cS true 4 x y 3=x 0*y 3+x 1*y 2+x 2*y 1+x 3*y 0:=by simp[cS,sm,kW]
theorem alb (x y z:Nat->Int) {t:Nat} (h:t<4):cS true 4 (cS true 4 x y) z t=cS true 4 x (cS true 4 y z) t:=by
 match t,h with
 |0,_=>rw[EM,EM];simp only[EM,EN,EO,EP];grind
 |1,_=>rw[EN,EN];simp only[EM,EN,EO,EP];grind
 |2,_=>rw[EO,EO];simp only[EM,EN,EO,EP];grind
 |3,_=>rw[EP,EP];simp only[EM,EN,EO,EP];grind
theorem akO {k p:Int} {w:Nat} (c:OL k p w) (x y z:Nat->Int) {t:Nat} (h:t<w):cS (decide (k=8)) w (cS (decide (k=8)) w x y) z t=cS (decide (k=8)) w x (cS (decide (k=8)) w y z) t:=by by_cases a:k=8;obtain rfl:=c.w8 a;rw[decide_eq_true a];exact alb x y z h;rw[decide_eq_false a];have h6:=c.cw;rw[U4 (x':=pc x y) (y':=z) (fun i b=>Ln x y b) (fun _ _=>rfl),Ln _ _ h,U4 (x':=x) (y':=pc y z) (fun _ _=>rfl) (fun i b=>Ln y z b),Ln _ _ h];exact atf x y z (by omega)
theorem Vq (p:Int) (om:Bool) (w:Nat) (x y:Nat->Int):yb p om w x y=jb w fun t=>cS om w x y t%p:=rfl
theorem EV {r:Int×Int×Int} (h:r.1=7\/r.1=8) (x y:U):pK r x y=yb r.2.1 (decide (r.1=8)) (ar r) (cZ x) (cZ y):=ai h
theorem af3 {a b c p:Int} (f:0<=p) (ha:0<=a) (hb:0<=b) (d:0<=c):min (min (a*b) p*c) p=min (a*b*c) p:=by generalize hm:a*b=m;by_cases h:m<=p;rw[show min m p=m by omega];rw[show min m p=p by omega];by_cases e:c=0;subst e;simp;have h1:p*1<=p*c:=zak (by omega) f;have h2:p*c<=m*c:=Int.mul_le_mul_of_nonneg_right (by omega) d;omega
theorem KD {r:Int×Int×Int} (a:¬(r.1=7\/r.1=8)):ar r=1:=by obtain⟨k,p,n⟩:=r;simp only at a;simp only[ar,lB];rw[aq (by omega),aq (by omega)];rfl
theorem asg {r:Int×Int×Int} (hr:dA r=true) (h:¬(r.1=7\/r.1=8)) {a b c:Int} (f:0<=a/\a<=dz r) (g:0<=b/\b<=dz r) (e:0<=c/\c<=dz r):oC r (oC r a b) c=oC r a (oC r b c):=by obtain⟨k,p,n⟩:=r;simp only at h;rcases tJ hr with⟨rfl,rfl,rfl⟩|⟨rfl,d,rfl⟩|⟨rfl,d,rfl⟩|⟨rfl,d,rfl⟩|⟨rfl,d,rfl⟩|⟨rfl,rfl,hn⟩|⟨rfl,d,hn⟩|⟨rfl,d,kf,rfl⟩;have o:∀u v,oC (1,0,0) u v=((u.toNat&&&v.toNat:Nat):Int):=fun _ _=>rfl;rw[o,o,o,o,AT,AT,zb0];have o:∀u v,oC (2,p,0) u v=u*v%p:=fun _ _=>rfl;rw[o,o,o,o,zad,zaG,<-zad,zad a,zaG,<-zad,zaT];have o:∀u v,oC (3,p,0) u v=min (u*v) p:=fun _ _=>rfl;rw[o,o,o,o,af3 (by omega) f.1 g.1 e.1,zb9 a (min _ _),af3 (by omega) g.1 e.1 f.1,zaT a b c,zb9 a];have o:∀u v,oC (4,p,0) u v=min (u+v) p:=fun _ _=>rfl;rw[o,o,o,o];omega;have o:∀u v,oC (5,p,0) u v=min u v:=fun _ _=>rfl;rw[o,o,o,o];omega;have o:∀u v,oC (6,0,n) u v=((u.toNat&&&v.toNat:Nat):Int):=fun _ _=>rfl;rw[o,o,o,o,AT,AT,zb0];omega;omega
theorem mul_assoc {r:Int×Int×Int} {x y z:U} (hr:dA r=true) (hx:eD r x=true) (hy:eD r y=true) (j:eD r z=true):pK r (pK r x y) z=pK r x (pK r y z):=by by_cases d:r.1=7\/r.1=8;obtain⟨k,p,n⟩:=r;have c:=O1 hr d;rw[EV d,EV d,EV d,EV d];simp only;refine GL fun t s=>?_;show cS (decide (k=8)) (ar (k,p,n)) (cZ (yb p (decide (k=8)) (ar (k,p,n)) (cZ x) (cZ y))) (cZ z) t%p=cS (decide (k=8)) (ar (k,p,n)) (cZ x) (cZ (yb p (decide (k=8)) (ar (k,p,n)) (cZ y) (cZ z))) t%p;have h:cS (decide (k=8)) (ar (k,p,n)) (cZ (yb p (decide (k=8)) (ar (k,p,n)) (cZ x) (cZ y))) (cZ z) t%p=cS (decide (k=8)) (ar (k,p,n)) (cS (decide (k=8)) (ar (k,p,n)) (cZ x) (cZ y)) (cZ z) t%p:= abK (fun i f=>by rw[Vq,LV _ f,zaG]) (fun _ _=>rfl);have m:cS (decide (k=8)) (ar (k,p,n)) (cZ x) (cZ (yb p (decide (k=8)) (ar (k,p,n)) (cZ y) (cZ z))) t%p=cS (decide (k=8)) (ar (k,p,n)) (cZ x) (cS (decide (k=8)) (ar (k,p,n)) (cZ y) (cZ z)) t%p:= abK (fun _ _=>rfl) (fun i f=>by rw[Vq,LV _ f,zaG]);rw[h,m,akO c _ _ _ s];have g:=KD d;obtain⟨a,b,rfl,rfl,q,l⟩:=Bn hx hy g;obtain⟨_,c,e,rfl,_,o⟩:=Bn hx j g;rw[uR d,uR d,uR d,uR d,asg hr d q l o]
theorem anq {k p n:Int} (hk:k=7\/k=8) {j:Nat} (a:j<ar (k,p,n)):cZ (As (k,p,n)) j=if j=0 then 1 else 0:=by rw[agr,LV _ a,aq (show¬k=4 by omega),aq (show¬(k=5\/k=6) by omega)]
theorem akN {k p:Int} {w:Nat} (c:OL k p w) (u:Nat->Int) (v:Int) {t:Nat} (h:t<w):cS (decide (k=8)) w u (fun j=>if j=0 then v else 0) t=u t*v:=by
 by_cases b:k=8
 ·obtain rfl:=c.w8 b;rw[decide_eq_true b];match t,h with
  |0,_=>rw[EM];simp
  |1,_=>rw[EN];simp
  |2,_=>rw[EO];simp
  |3,_=>rw[EP];simp
 ·rw[decide_eq_false b,Ln _ _ h];unfold pc;rw[ZZ (a:=t) (t+1) (by omega) (fun i hi bm=>by simp only;rw[aq (by omega),Int.mul_zero])];simp only
  rw[ai (by omega)]
theorem asi {k p n:Int} (hr:dA (k,p,n)=true) (hk:¬(k=7\/k=8)) {a:Int} (ha:0<=a/\a<=dz (k,p,n)):oC (k,p,n) a (if k=4 then 0 else if k=5\/k=6 then dz (k,p,n) else 1)=a:=by rcases tJ hr with⟨rfl,rfl,rfl⟩|⟨rfl,b,rfl⟩|⟨rfl,b,rfl⟩|⟨rfl,b,rfl⟩|⟨rfl,b,rfl⟩|⟨rfl,rfl,hn⟩|⟨rfl,b,hn⟩|⟨rfl,b,kf,rfl⟩;have e:dz (1,0,0)=1:=rfl;have c:a=0\/a=1:=(by omega);rcases c with rfl|rfl<;>decide;have e:dz (2,p,0)=p - 1:=rfl;have:=oe b;show a*1%p=a;rw[zbO,za8 (by omega) (by omega)];have e:dz (3,p,0)=p:=rfl;show min (a*1) p=a;omega;have e:dz (4,p,0)=p:=rfl;show min (a+0) p=a;omega;have e:dz (5,p,0)=p:=rfl;show min a p=a;omega;have e:dz (6,0,n)=2^n.toNat - 1:=rfl;have e2:(((2:Nat)^n.toNat:Nat):Int)=(2:Int)^n.toNat:=(by push_cast;rfl);show((a.toNat&&&(2^n.toNat - 1:Int).toNat:Nat):Int)=a;rw[show(2^n.toNat - 1:Int).toNat=2^n.toNat - 1 by omega,Nat.and_two_pow_sub_one_eq_mod,zaq (by omega)];omega;omega;omega
theorem mul_one {r:Int×Int×Int} {x:U} (hr:dA r=true) (hx:eD r x=true):pK r x (As r)=x:=by
 obtain⟨k,p,n⟩:=r;by_cases a:k=7\/k=8
 ·have c:=O1 hr a;rw[EV a,Vq];simp only
  have l:dz (k,p,n)=p - 1:=by
   simp only[dz];rw[aq (by omega),aq (by omega),aq (by omega)]
  refine(GL fun t d=>?_).trans (OA (jf hx));rw[U4 (x':=cZ x) (y':=fun j=>if j=0 then 1 else 0) (fun _ _=>rfl) (fun i g=>anq a g),akN c _ _ d,zbO]
  have:=wV hx d;rw[l] at this;exact za8 this.1 (by omega)
 ·have b:=KD (r:=(k,p,n)) a;obtain⟨e,h⟩:=Bm hx b;have f:As (k,p,n)=[if k=4 then 0 else if k=5\/k=6 then dz (k,p,n) else 1]:=by simp only[As];exact atY b
  rw[e,f,uR a,asi hr a h]
abbrev Rg:=Int×Int×Int
abbrev T3:=U×U×U
abbrev gV:=Int×List U
def f7 (r:Rg) (t:T3):Bool:=dA r&&(decide (0<=fF t.1 t.2.1)&&(decide ((t.2.2.length:Int)=fF t.1 t.2.1*lB r)&&t.2.2.all (qF (dz r))))
def CG:Rg×T3->Option Bool:=fun x=>if x.2.1.length<=1048576/\x.2.2.1.length<=1048576/\x.2.2.2.length<=1048576 then some (f7 x.1 x.2) else none
def tT:Rg×T3->Option Bool:=CG
def CH:T3->Option T3:=fun x=>if x.1.length<=1048576/\x.2.1.length<=1048576/\x.2.2.length<=1048576 then some x else none
def hH (R:List U) (ix:U) (i:Nat):Int:=(R.getD i []).getD (ix.getD i 0).toNat 0
def GI (x:gV×U):Prop:=(1<=x.1.1/\x.1.1<=12)/\x.2.length<=12/\∀i,i<x.2.length->i<x.1.2.length/\(0<=x.2.getD i 0/\(x.2.getD i 0).toNat<(x.1.2.getD i []).length)/\0<=hH x.1.2 x.2 i/\hH x.1.2 x.2 i<=12
instance (x:gV×U):Decidable (GI x):=by unfold GI;infer_instance
def EA:gV×U->Option Int:=fun x=>if GI x then some (sm x.2.length (hH x.1.2 x.2)%x.1.1) else none
def xO:gV×U->Option U:=fun x=>if GI x then some (cE x.2.length (hH x.1.2 x.2)) else none
def tZ:U->Option Int:=fun l=>if l.length<=12/\∀v∈l,0<=v/\v<=12 then some (sm l.length fun i=>l.getD i 0) else none
def tW:U->Option Int:=fun l=>if(l.length<=12\/l.length<=1000/\aB l<=1073741824)/\∀v∈l,1<=v/\v<=8 then some (fA l) else none
def CD:U×Int->Option U:=Ez
def gf (l:U) (o:Nat) (x:U):U:=l.take o++x++l.drop (o+x.length)
def Zj (x:Rg×T3×Int×U):Prop:=dA x.1=true/\0<=x.2.2.1/\x.2.2.1.toNat*ar x.1+x.2.2.2.length<=x.2.1.2.2.length/\x.2.1.2.2.length<=1048576
instance (x:Rg×T3×Int×U):Decidable (Zj x):=by unfold Zj;infer_instance
def AP:Rg×T3×Int×U->Option U:=fun x=>if Zj x then some (gf x.2.1.2.2 (x.2.2.1.toNat*ar x.1) x.2.2.2) else none
def Pq (x:Rg×T3×Int):Prop:=dA x.1=true/\0<=x.2.2/\(x.2.2.toNat+1)*ar x.1<=x.2.1.2.2.length/\x.2.1.2.2.length<=1048576
instance (x:Rg×T3×Int):Decidable (Pq x):=by unfold Pq;infer_instance
def qm (D:U) (c:gV) (n:Nat):Bool:=decide (sm D.length (hH c.2 (aD D n))%c.1≠0)
def gp (r:Rg) (D:U) (c:gV) (A:U):Nat->U
 |0=>A
 |k+1=>if qm D c k=true then gf (gp r D c A k) (k*ar r) (dU r) else gp r D c A k
def ET (x:Rg×T3×gV):Prop:=(x.2.1.1.length<=1048576/\x.2.1.2.1.length<=1048576/\x.2.1.2.2.length<=1048576)/\Hv (x.2.1,x.2.2)
instance (x:Rg×T3×gV):Decidable (ET x):=by unfold ET;infer_instance
def LC (r:Rg) (t:T3) (c:gV):T3×Bool:=if f7 r t=true/\jQ (t,c)=true then((t.1,t.2.1,gp r t.2.1 c t.2.2 (aB t.2.1)),true) else(([],[],[]),false)
def AL:Rg×T3×gV->Option (T3×Bool):=fun x=>if ET x then some (LC x.1 x.2.1 x.2.2) else none
def qq (r:Rg) (t:T3) (c:gV):Bool:=decide (f7 r t=true/\jQ (t,c)=true/\gp r t.2.1 c t.2.2 (aB t.2.1)=t.2.2)
def aa0:Rg×T3×gV->Option Bool:=fun x=>if ET x then some (qq x.1 x.2.1 x.2.2) else none
def wK:Rg×T3×gV->Option Bool:=aa0
def T5 (NN:Nat):((Int×(Int×Int))×(U×(U×U)))->(Option Bool):=
 (fun((i0,i1,i2),l3,l4,l5)=>
 (ze (l3,l4,l5)).ae (fun i6=>
 (G5 (i0,i1,i2)).ae (fun b7=>
 aA (de b7)
 (some false)
 (aA (cH i6 (0:Int))
 (some false)
 ((wM (i0,i1,i2)).ae (fun i8=>
 aA (iQ (aK (aa l5)) (ik .i64 i6 i8))
 (some false)
 (bN (bS NN (fun((l9,gM,fU),eA,ft,f0)=>
 aA (cH fU gM)
 ((cg l9 fU).ae (fun jz=>
 (zf (eA,ft,f0)).ae (fun fV=>
 (oE (jz,(0:Int),fV)).ae (fun b17=>
 aA (de b17)
 (some (AI (AI false)))
 (some (wt ((l9,gM,bt .i64 fU 1),eA,ft,f0)))))))
 (some (AI (wt ()))))
 ((l5,aK (aa l5),(0:Int)),i0,i1,i2))
 (fun _=>
 some true))))))))
def To (NN:Nat):((Int×(Int×Int))×(U×(U×U)))->(Option Bool):=
 (fun((i0,i1,i2),l3,l4,l5)=>
 (CA (i0,i1,i2)).ae (fun b6=>
 aA (de b6)
 (some false)
 ((tU (l3,l4,l5)).ae (fun i7=>
 aA (iQ i7 ((-1:Int)))
 ((tY (i0,i1,i2)).ae (fun i8=>
 aA (bH (aK (aa l5)) (ik .i64 i7 i8))
 ((GW ((i0,i1,i2),l5)).ae (fun b9=>
 some b9))
 (some false)))
 (some false)))))
def Uh (NN:Nat):(U×(U×U))->(Option (U×(U×U))):=
 (fun(l0,l1,l2)=>
 (t6 l0).ae (fun l3=>
 (t6 l1).ae (fun l4=>
 (t6 l2).ae (fun l5=>
 (dO l3 (aa l3)).ae (fun l6=>
 (dO l4 (aa l4)).ae (fun l7=>
 (dO l5 (aa l5)).ae (fun l8=>
 some (l6,l7,l8))))))))
def Ut (NN:Nat):((Int×(List U))×U)->(Option Int):=
 (fun((i0,l1),l2)=>
 bN (bS NN (fun((i3,l4,i5,i6),i7,l8)=>
 aA (cH i6 i5)
 ((cg l4 i6).ae (fun i9=>
 (cg l8 i6).ae (fun cP=>
 (cg cP i9).ae (fun fU=>
 some (wt ((bt .i64 i3 fU,l4,i5,bt .i64 i6 1),i7,l8))))))
 (some (AI (wt (i3,i7,l8)))))
 (((0:Int),l2,aK (aa l2),(0:Int)),i0,l1))
 (fun(eA,ft,dh)=>
 (ja eA ft).ae (fun jz=>
 some jz)))
def Ts (NN:Nat):((Int×(List U))×U)->(Option U):=
 (fun((i0,l1),l2)=>
 (j6 (aK (aa l2)) (aK (aa l2)) 8).ae (fun k3=>
 bN ((aU 0 k3 (aa (cJ k3 (0:Int)))).ae (fun _=>
 bS NN (fun((l4,i5,i6),(i7,l8),l9)=>
 aA (cH i6 i5)
 ((cg l4 i6).ae (fun gM=>
 (cg l8 i6).ae (fun ed=>
 (cg ed gM).ae (fun eA=>
 (dg i6 (aa l9)).ae (fun X9=>
 (bL l9 (au 0 X9)).ae (fun f0=>
 (aU 0 (aa l9) (aa (br l9 (au 0 X9) eA))).ae (fun _=>
 some (wt ((l4,i5,bt .i64 i6 1),(i7,l8),br l9 (au 0 X9) eA)))))))))
 ((ah l9 (
 some (wt l9))).ae (fun dH=>
 some (AI dH))))
 ((l2,aK (aa l2),(0:Int)),(i0,l1),cJ k3 (0:Int))))
 (fun dM=>
 (dO dM (aa dM)).ae (fun dj=>
 some dj))))
def TR (NN:Nat):U->(Option Int):=
 (fun l0=>
 bN (bS NN (fun(i1,l2,i3,i4)=>
 aA (cH i4 i3)
 ((cg l2 i4).ae (fun i5=>
 some (wt (bt .i64 i1 i5,l2,i3,bt .i64 i4 1))))
 (some (AI (wt i1))))
 ((0:Int),l0,aK (aa l0),(0:Int)))
 (fun i6=>
 some i6))
def TL (NN:Nat):U->(Option Int):=
 (fun l0=>
 bN (bS NN (fun(i1,l2,i3,i4)=>
 aA (cH i4 i3)
 ((cg l2 i4).ae (fun i5=>
 some (wt (ik .i64 i1 i5,l2,i3,bt .i64 i4 1))))
 (some (AI (wt i1))))
 ((1:Int),l0,aK (aa l0),(0:Int)))
 (fun i6=>
 some i6))
def aa6 (NN:Nat):(U×Int)->(Option U):=
 (fun(l0,i1)=>
 (j6 (aK (aa l0)) (aK (aa l0)) 8).ae (fun k2=>
 bN ((aU 0 k2 (aa (cJ k2 (0:Int)))).ae (fun _=>
 bS NN (fun((l3,i4,i5),l6)=>
 aA (gZ (0:Int) i5)
 ((cg l3 i5).ae (fun i7=>
 (ja i4 i7).ae (fun i8=>
 (dg i5 (aa l6)).ae (fun k9=>
 (bL l6 (au 0 k9)).ae (fun gM=>
 (cg l3 i5).ae (fun fU=>
 (JK .i64 i4 fU).ae (fun eA=>
 (aU 0 (aa l6) (aa (br l6 (au 0 k9) i8))).ae (fun _=>
 some (wt ((l3,eA,lv .i64 i5 1),br l6 (au 0 k9) i8))))))))))
 ((ah l6 (
 some (wt l6))).ae (fun eY=>
 some (AI eY))))
 ((l0,i1,lv .i64 (aK (aa l0)) (1:Int)),cJ k2 (0:Int))))
 (fun dh=>
 (dO dh (aa dh)).ae (fun dH=>
 some dH))))
theorem aL {α β:Type} (x:α) (f:α->Option β):(some x).ae f=f x:=by
 have h:∀o:Option α,o=some x->o.ae f=f x:=by intro o h;subst h;rfl
 exact h _ rfl
theorem j7 {r:Rg} {L D A:U} (h:f7 r (L,D,A)=true):dA r=true/\(D.length<=12/\(∀x∈D,1<=x/\x<=8))/\fF L D=(aB D:Int)/\(1<=aB D/\aB D<=4096)/\A.length=aB D*ar r/\lH D/\EH 4096 D=(aB D:Int)/\fA D=(aB D:Int)/\A.all (qF (dz r))=true:=by simp only[f7,AN,decide_eq_true_eq] at h;obtain⟨d,f,c,g⟩:=h;have i:=mE d;by_cases b:mh L D=true/\fA D<=4096;have e:fF L D=fA D:=ai b;have hd:=rJ b.1;have hl:=ku b.1;have a:=tE (D:=D) fun x hx=>(hd x hx).1;have j:=Ax (D:=D) fun x hx=>(hd x hx).1;refine⟨d,⟨by omega,hd⟩,e.trans a,⟨j,by omega⟩,?_,⟨by omega,fun x hx=>by have:=hd x hx;omega⟩,?_,a,g⟩;rw[e,a,i.1] at c;exact_mod_cast c;unfold EH;rw[O0 (by decide) _ 0 1 (fun x hx=>(hd x hx).1) (by decide) (by decide),zbs,a,zbP (by omega)];have e:fF L D= -1:=aq b;rw[e] at f;exact absurd f (by decide)
theorem ajs (L D:U):fF L D= -1\/(0<=fF L D/\fF L D<=4096):=by unfold fF;split;rename_i h;have hd:=rJ h.1;have hI:=tE (D:=D) fun x hx=>(hd x hx).1;right;omega;exact .inl rfl
theorem ajo {L D:U} {r:Rg} (h:dA r=true) (a:0<=fF L D):ik .i64 (fF L D) (lB r)=fF L D*lB r:=by have hw:=mE h;have b:fF L D<=4096:=(by rcases ajs L D with e|e;omega;exact e.2);have h2:fF L D*lB r<=4096*6:=zay b (by omega) (by omega) (by decide);have h3:0<=fF L D*lB r:=za5 a (by omega);exact rA
theorem am7 (x:Rg×T3) (y:Bool) (h:CG x=some y):T5 bW x=some y:=by obtain⟨⟨k,p,n⟩,L,D,A⟩:=x;simp only[CG] at h;split at h;rename_i d;rw[<-h];simp only[T5];rw[show ze (L,D,A)=some (fF L D) from ai ⟨d.1,d.2.1⟩];simp only[aL,G5];(cases hr:dA (k,p,n) with|false=>rw[be (b:=de false) rfl];simp[f7,hr]|true=>rw[aW (b:=de true) rfl];by_cases e:0<=fF L D;rw[aW (eB e)];simp only[wM,aL];rw[ajo hr e,nl];by_cases hl:(A.length:Int)=fF L D*lB (k,p,n);rw[aW (show iQ _ _=false by unfold iQ;rw[hl];simp)];have j:zf (k,p,n)=some (dz (k,p,n)):=ai hr;rw[Jl A (fun i=>((A,(A.length:Int),(i:Int)),k,p,n)) (qF (dz (k,p,n))) (.inr false) (.inl ()) ?_ ?_ ?_ ?_ (dY (by have:=d.2.2;omega))];cases c:A.all (qF (dz (k,p,n)));rw[aq (by simp)];simp[f7,hr,c,bN];rw[ai rfl];simp[f7,hr,c,bN,e,hl];intro i a c g;have f:decide (0<=a/\a<=dz (k,p,n))=true:=g;dsimp only;rw[be (dt (by have:=Jm c;omega)),dw,c,aL,j];simp only[oE,aL];rw[f,aW agl,Gb c (by have:=d.2.2;omega)];intro i a c g;have f:decide (0<=a/\a<=dz (k,p,n))=false:=g;dsimp only;rw[be (dt (by have:=Jm c;omega)),dw,c,aL,j];simp only[oE,aL];rw[f,be (b:=de false) rfl];dsimp only;rw[aW eB];rfl;rw[be (show iQ _ _=true from bne_iff_ne.2 hl)];simp[f7,hr,hl];rw[be dt];simp[f7,hr,e]);cases h
theorem amC (x:Rg×T3) (y:Bool) (h:tT x=some y):To bW x=some y:=by obtain⟨⟨k,p,n⟩,L,D,A⟩:=x;simp only[tT,CG] at h;split at h;rename_i a;rw[<-h];simp only[To,CA,aL];(cases hr:dA (k,p,n) with|false=>rw[be (b:=de false) rfl];simp[f7,hr]|true=>rw[aW (b:=de true) rfl,show tU (L,D,A)=some (fF L D) from ai ⟨a.1,a.2.1⟩];simp only[aL];by_cases c:0<=fF L D;rw[be (show iQ _ _=true from bne_iff_ne.2 (by omega))];simp only[tY,aL];rw[ajo hr c,nl];by_cases hl:(A.length:Int)=fF L D*lB (k,p,n);rw[be (show bH _ _=true from beq_iff_eq.2 hl),show GW ((k,p,n),A)=some _ from ai ⟨hr,by have:=a.2.2;omega⟩,aL];simp[f7,hr,c,hl];rw[aW (show bH _ _=false from beq_eq_false_iff_ne.2 hl)];simp[f7,hr,hl];have:fF L D= -1:=(by rcases ajs L D with e|e<;>omega);rw[aW (show iQ _ _=false by unfold iQ;rw[this];rfl)];simp[f7,hr,c]);cases h
theorem ang (x:T3) (y:T3) (h:CH x=some y):Uh bW x=some y:=by obtain⟨L,D,A⟩:=x;simp only[CH] at h;split at h;rename_i a;rw[<-h];simp only[Uh];rw[show t6 L=some L from ai (by have:=a.1;omega),show t6 D=some D from ai (by have:=a.2.1;omega),show t6 A=some A from ai (by have:=a.2.2;omega)];simp only[aL,kF];cases h
theorem abQ {m:Int} {R:List U} {ix:U} (h:GI ((m,R),ix)) {i:Nat} (c:i<ix.length): cg ix (i:Int)=some (ix.getD i 0)/\cg R (i:Int)=some (R.getD i [])/\cg (R.getD i []) (ix.getD i 0)=some (hH R ix i):=by obtain⟨_,_,f⟩:=h;obtain⟨d,⟨b,a⟩,_⟩:=f i c;dsimp only at d b a;refine⟨by rw[dw,getD_some 0 c],by rw[dw,getD_some [] d],?_⟩;unfold hH;obtain⟨v,e⟩:=nU b;rw[e] at a⊢;rw[dw,AT];exact getD_some 0 a
theorem Lq {m:Int} {R:List U} {ix:U} (h:GI ((m,R),ix)):∀k,k<=ix.length->0<=sm k (hH R ix)/\sm k (hH R ix)<=12*k
 |0,_=>⟨zaB 0,zaB 0⟩
 |k+1,hk=>by have ih:=Lq h k (by omega);have:=(h.2.2 k (by dsimp only;omega)).2.2;simp only[sm];dsimp only at this;omega
theorem anm (x:gV×U) (y:Int) (h:EA x=some y):Ut bW x=some y:=by obtain⟨⟨m,R⟩,ix⟩:=x;simp only[EA] at h;split at h;rename_i a;rw[<-h];have hl:=a.2.1;dsimp only at hl;have hm:=a.1;dsimp only at hm;simp only[Ut];rw[gd (fun k=>((sm k (hH R ix),ix,aK (aa ix),(k:Int)),m,R)) ix.length ?a1 ?a2 ?a3 dY];(case a3=>rfl);(case a2=>dsimp only;rw[aW (o7 ix)]);(case a1=>intro k b;obtain⟨d,e,f⟩:=abQ a b;have c:=Lq a k (by omega);have g:=(a.2.2 k b).2.2;dsimp only at g;dsimp only;rw[be (dt (by rw[nl];omega)),d,aL,e,aL,f,aL,dZ,dZ];rfl);have c:=Lq a ix.length (OF _);simp only[bN,zav];rw[rD c.1 (by omega)];simp only[aL];cases h
theorem amI (x:gV×U) (y:U) (h:xO x=some y):Ts bW x=some y:=by
 obtain⟨⟨m,R⟩,ix⟩:=x;simp only[xO] at h;split at h
 ·rename_i b;rw[<-h];have hl:=b.2.1;dsimp only at hl;simp only[Ts,ah];rw[si (n:=aa ix) (by simp only[aa,fe];omega)];simp only[aL];rw[show aU 0 (aa ix) (aa (cJ (aa ix) (0:Int)))=some () by rw[uN];exact bE _];simp only[aL];rw[gd (fun k=>((ix,aK (aa ix),(k:Int)),(m,R),cE ix.length fun q=>if q<k then hH R ix q else 0)) (r:=wt (cE ix.length (hH R ix))) ix.length ?a1 ?a2 ?a3 dY]
  case a3=>
   rw[Zq];have:cE (aa ix) (fun _=>(0:Int))=cE ix.length fun q=>if q<0 then hH R ix q else 0:=nB fun q _=>by rw[aq (by omega)]
   rw[this];rfl
  case a2=>
   dsimp only
   rw[aW (o7 ix)];simp only[zH,aL];rw[show cE ix.length (fun q=>if q<ix.length then hH R ix q else 0)=cE ix.length (hH R ix) from nB fun q g=>by rw[ai g]]
  case a1=>
   intro k a;obtain⟨c,d,f⟩:=abQ b a;dsimp only
   rw[be (dt (by rw[nl];omega)),c,aL,d,aL,f,aL,Ba _ a];simp only[aL,gW];rw[Dd _ a];simp only[aL];rw[JT,zH];simp only[aL];rw[dZ];have:cE ix.length (fun q=>if q=k then hH R ix k else if q<k then hH R ix q else 0)=cE ix.length fun q=>if q<k+1 then hH R ix q else 0:=nB fun q _=>by
    by_cases e:q=k
    ·rw[ai e,ai (by omega),e]
    ·rw[aq e];by_cases h:q<k
     ·rw[ai h,ai (by omega)]
     ·rw[aq h,aq (by omega)]
   rw[this];rfl
  simp only[bN,zav,kF,aL]
 ·cases h
theorem am0 (x:U) (y:Int) (h:tZ x=some y):TR bW x=some y:=by simp only[tZ] at h;split at h;rename_i d;rw[<-h];obtain⟨hl,c⟩:=d;have e:∀k,k<=x.length->0<=sm k (fun i=>x.getD i 0)/\sm k (fun i=>x.getD i 0)<=12*k:=(by intro k;induction k with|zero=>exact fun _=>⟨zaB 0,zaB 0⟩|succ k b=>intro a;have b:=b (by omega);have:=c _ (IT (getD_some 0 (show k<x.length by omega)));simp only[sm];omega);simp only[TR];rw[gd (fun k=>(sm k (fun i=>x.getD i 0),x,aK (aa x),(k:Int))) x.length ?a1 ?a2 ?a3 dY];(case a3=>rfl);(case a2=>dsimp only;rw[aW (o7 x)]);(case a1=>intro k a;have g:=getD_some (0:Int) a;have h1:=e k (by omega);have h2:=c _ (IT g);dsimp only;rw[be (dt (by rw[nl];omega)),dw,g,aL,dZ,dZ];rfl);simp only[bN,zav];cases h
theorem agX:∀(l:U) (k:Nat),aB l=aB (l.take k)*aB (l.drop k)
 |[],k=>by simp[aB]
 |x::l,0=>by simp[aB]
 |x::l,k+1=>by simp only[List.take_succ_cons,List.drop_succ_cons,aB];rw[agX l k,Nat.mul_assoc]
theorem amW (x:U) (y:Int) (h:tW x=some y):TL bW x=some y:=by simp only[tW] at h;split at h;rename_i o;rw[<-h];obtain⟨hl,e⟩:=o;have d:∀k,k<=x.length->1<=fA (x.take k)/\fA (x.take k)<=68719476736:=(by rcases hl with hl|hl;have d:∀k,k<=x.length->1<=fA (x.take k)/\fA (x.take k)<=8^k:=(by intro k;induction k with|zero=>exact fun _=>⟨zaB 1,zaB 1⟩|succ k p=>intro a;obtain⟨s,q⟩:=p (by omega);have b:=e _ (IT (getD_some 0 (show k<x.length by omega)));rw[JH (by omega)];have i:1*1<=fA (x.take k)*x.getD k 0:=zay s b.1 (by decide) (by omega);have c:fA (x.take k)*x.getD k 0<=8^k*8:=zay q b.2 (by omega) (by exact Int.pow_nonneg (by decide));exact⟨by omega,by rw[zaL];exact c⟩);have n:∀k,k<=12->(8:Int)^k<=68719476736:=(by decide);intro k a;have b:=d k a;have j:=n k (by omega);omega;intro k a;have f:∀(l:U),(∀v∈l,v∈x)->1<=aB l:=fun l r=>Ax fun v m=>(e v (r v m)).1;have b:=f (x.take k) fun v h=>zaQ h;have j:=f (x.drop k) fun v h=>zaR h;have h3:=agX x k;have h4:aB (x.take k)*1<=aB (x.take k)*aB (x.drop k):=zbu _ j;have h5:=tE (D:=x.take k) fun v h=>(e v (zaQ h)).1;omega);simp only[TL];rw[gd (fun k=>(fA (x.take k),x,aK (aa x),(k:Int))) x.length ?i ?c ?a3 dY];(case a3=>rfl);(case c=>dsimp only;rw[aW (o7 x)]);(case i=>intro k a;have g:=getD_some (0:Int) a;have b:=d (k+1) (by omega);rw[JH a] at b;dsimp only;rw[be (dt (by rw[nl];omega)),dw,g,aL,rA,dZ,<-JH a];rfl);simp only[bN,zav,zaO];cases h
theorem amR (x:U×Int) (y:U) (h:CD x=some y):aa6 bW x=some y:=acW x y h
def xP:Rg×T3×Int->Option (Int×Int):=fun x=>if Pq x then some (((x.2.2.toNat*ar x.1:Nat):Int),(((x.2.2.toNat+1)*ar x.1:Nat):Int)) else none
def GV:T3->Option T3:=CH
def GR:Rg×T3×gV->Option (T3×Bool):=AL
def Up (NN:Nat):((Int×(Int×Int))×((U×(U×U))×(Int×U)))->(Option U):=
 (fun((i0,i1,i2),(l3,l4,l5),i6,l7)=>
 (wM (i0,i1,i2)).ae (fun i8=>
 ah l5 (
 bS NN (fun((i9,cP,fU,eA,ft),dh,dH,dM)=>
 aA (cH ft eA)
 ((cg cP ft).ae (fun gN=>
 (dg (bt .i64 (ik .i64 i9 fU) ft) (aa dh)).ae (fun Ad=>
 (bL dh (au 0 Ad)).ae (fun gD=>
 (aU 0 (aa dh) (aa (br dh (au 0 Ad) gN))).ae (fun _=>
 some (wt ((i9,cP,fU,eA,bt .i64 ft 1),br dh (au 0 Ad) gN,dH,dM)))))))
 (((lm (aa dh) (aa l5)).ae (fun _=>
 some dh)).ae (fun gE=>
 some (AI gE))))
 ((i6,l7,i8,aK (aa l7),(0:Int)),l5,l3,l4))))
def TZ (NN:Nat):((Int×(Int×Int))×((U×(U×U))×(Int×(List U))))->(Option ((U×(U×U))×Bool)):=
 (fun((i0,i1,i2),(l3,l4,l5),i6,l7)=>
 (CG ((i0,i1,i2),l3,l4,l5)).ae (fun b8=>
 aA (de b8)
 (some ((([]:U),([]:U),([]:U)),false))
 ((CE ((l3,l4,l5),i6,l7)).ae (fun b9=>
 aA (de b9)
 (some ((([]:U),([]:U),([]:U)),false))
 ((CH (l3,l4,l5)).ae (fun(cP,ed,eu)=>
 bN ((aU 0 0 (aa (([]:U)))).ae (fun _=>
 (aU 0 0 (aa (([]:U)))).ae (fun _=>
 (aU 0 0 (aa (([]:U)))).ae (fun _=>
 ah cP (
 ah ed (
 ah eu (
 bS NN (fun(ft,(f0,jz,fV),(dj,fN,gb),(eO,gi),ef,ie,dN,gG,fO,gw)=>
 (wN (fN,(4096:Int))).ae (fun iT=>
 aA (cH ft iT)
 ((Ez (fN,ft)).ae (fun dW=>
 (cr dW 0 (aa dW)).ae (fun fY=>
 (EA ((eO,gi),fY)).ae (fun qD=>
 aA (iQ qD (0:Int))
 ((AO (f0,jz,fV)).ae (fun jI=>
 (cr gG 0 (aa gG)).ae (fun gz=>
 (cr fO 0 (aa fO)).ae (fun jB=>
 ah gw (
 (cr jI 0 (aa jI)).ae (fun iG=>
 (AP ((f0,jz,fV),(gz,jB,gw),ft,iG)).ae (fun gQ=>
 ah ef (
 ah ie (
 ah dN (
 ah gG (
 ah fO (
 (aU 0 (aa gw) (aa gQ)).ae (fun _=>
 some (wt (bt .i64 ft 1,(f0,jz,fV),(dj,fN,gb),(eO,gi),ef,ie,dN,gG,fO,gQ)))))))))))))))
 (ah ef (
 ah ie (
 ah dN (
 ah gG (
 ah fO (
 ah gw (
 some (wt (bt .i64 ft 1,(f0,jz,fV),(dj,fN,gb),(eO,gi),ef,ie,dN,gG,fO,gw)))))))))))))
 ((ah ef (
 ah ie (
 ah dN (
 ah gG (
 ah fO (
 ah gw (
 some (wt (ef,ie,dN,gG,fO,gw))))))))).ae (fun jJ=>
 some (AI jJ)))))
 ((0:Int),(i0,i1,i2),(l3,l4,l5),(i6,l7),([]:U),([]:U),([]:U),cP,ed,eu))))))))
 (fun(ou,nw,kz,kP,ig,gR)=>
 (dO kP (aa kP)).ae (fun iU=>
 (dO ig (aa ig)).ae (fun wj=>
 (dO gR (aa gR)).ae (fun pI=>
 some ((iU,wj,pI),true)))))))))))
def TM (NN:Nat):((Int×(Int×Int))×((U×(U×U))×Int))->(Option (Int×Int)):=
 (fun((i0,i1,i2),(l3,l4,l5),i6)=>
 (tY (i0,i1,i2)).ae (fun i7=>
 (jP (ik .i64 i6 i7) (ik .i64 (bt .i64 i6 1) i7) (aa l5)).ae (fun(k8,k9)=>
 (dg (0:Int) (aa l5)).ae (fun k10=>
 some (aK (au 0 k8),aK (au (au 0 k8) k9))))))
def Tv (NN:Nat):(U×(U×U))->(Option (U×(U×U))):=
 (fun(l0,l1,l2)=>
 (pP l0).ae (fun l3=>
 (pP l1).ae (fun l4=>
 (pP l2).ae (fun l5=>
 (dO l3 (aa l3)).ae (fun l6=>
 (dO l4 (aa l4)).ae (fun l7=>
 (dO l5 (aa l5)).ae (fun l8=>
 some (l6,l7,l8))))))))
def Th (NN:Nat):((Int×(Int×Int))×((U×(U×U))×(Int×(List U))))->(Option ((U×(U×U))×Bool)):=
 (fun((i0,i1,i2),(l3,l4,l5),i6,l7)=>
 (tT ((i0,i1,i2),l3,l4,l5)).ae (fun b8=>
 aA (de b8)
 (some ((([]:U),([]:U),([]:U)),false))
 ((wJ ((l3,l4,l5),i6,l7)).ae (fun b9=>
 aA (de b9)
 (some ((([]:U),([]:U),([]:U)),false))
 ((GV (l3,l4,l5)).ae (fun(cP,ed,eu)=>
 bN ((aU 0 0 (aa (([]:U)))).ae (fun _=>
 (aU 0 0 (aa (([]:U)))).ae (fun _=>
 (aU 0 0 (aa (([]:U)))).ae (fun _=>
 ah cP (
 ah ed (
 ah eu (
 bS NN (fun(ft,(f0,jz,fV),(dj,fN,gb),(eO,gi),ef,ie,dN,gG,fO,gw)=>
 (tW fN).ae (fun iT=>
 aA (cH ft iT)
 ((CD (fN,ft)).ae (fun dW=>
 (cr dW 0 (aa dW)).ae (fun fY=>
 (xO ((eO,gi),fY)).ae (fun fG=>
 (cr fG 0 (aa fG)).ae (fun jI=>
 (tZ jI).ae (fun Dt=>
 (ja Dt eO).ae (fun oN=>
 aA (iQ oN (0:Int))
 ((cr gG 0 (aa gG)).ae (fun iG=>
 (cr fO 0 (aa fO)).ae (fun gQ=>
 ah gw (
 (xP ((f0,jz,fV),(iG,gQ,gw),ft)).ae (fun(Du,nq)=>
 (jP Du nq (aa gw)).ae (fun(FU,I2)=>
 (wL (f0,jz,fV)).ae (fun kP=>
 (cr kP 0 (aa kP)).ae (fun ig=>
 (vC gw FU I2 (List.take I2 ig)).ae (fun gR=>
 ah ef (
 ah ie (
 ah dN (
 ah gG (
 ah fO (
 (aU 0 (aa gw) (aa gR)).ae (fun _=>
 some (wt (bt .i64 ft 1,(f0,jz,fV),(dj,fN,gb),(eO,gi),ef,ie,dN,gG,fO,gR)))))))))))))))))
 (ah ef (
 ah ie (
 ah dN (
 ah gG (
 ah fO (
 ah gw (
 some (wt (bt .i64 ft 1,(f0,jz,fV),(dj,fN,gb),(eO,gi),ef,ie,dN,gG,fO,gw))))))))))))))))
 ((ah ef (
 ah ie (
 ah dN (
 ah gG (
 ah fO (
 ah gw (
 some (wt (ef,ie,dN,gG,fO,gw))))))))).ae (fun iU=>
 some (AI iU)))))
 ((0:Int),(i0,i1,i2),(l3,l4,l5),(i6,l7),([]:U),([]:U),([]:U),cP,ed,eu))))))))
 (fun(wj,pI,ov,jC,sb,jK)=>
 (dO jC (aa jC)).ae (fun kA=>
 (dO sb (aa sb)).ae (fun jV=>
 (dO jK (aa jK)).ae (fun qc=>
 some ((kA,jV,qc),true)))))))))))
theorem Nl {α:Type} {a b:Prop} [Decidable a] [Decidable b] (h:a↔b) (x y:α):(if a then x else y)=if b then x else y:=by simp only[h]
theorem Js {a b:Nat} (h:a*b<=1099511627776:=by omega):ik .i64 (a:Int) (b:Int)=((a*b:Nat):Int):=by have e:(a:Int)*(b:Int)=((a*b:Nat):Int):=(Int.natCast_mul a b).symm;rw[rA,e]
theorem JI {l:U} {o:Nat} {x:U} (h:o+x.length<=l.length):(gf l o x).length=l.length:=by unfold gf;simp only[zas,zaa,List.length_drop];omega
theorem Zk {l:U} {o:Nat} {x:U} (h:o+x.length<=l.length) (q:Nat):(gf l o x)[q]? =if q<o then l[q]? else if q<o+x.length then x[q - o]? else l[q]? :=by unfold gf;have c:(l.take o).length=o:=(by rw[zaa];omega);have d:(l.take o++x).length=o+x.length:=(by rw[zas,c]);by_cases a:q<o;rw[ai a,zaA (by omega),zaA (by omega),zau,ai a];rw[aq a];by_cases b:q<o+x.length;rw[ai b,zaA (by omega),zaX (by omega),c];rw[aq b,zaX (by omega),d,za3];congr 1;omega
theorem atD {l:U} {o i:Nat} {x:U} (h:o+x.length<=l.length) (c:i<x.length):br (gf l o (x.take i)) (o+i) (x.getD i 0)=gf l o (x.take (i+1)):=by have l1:(x.take i).length=i:=(by rw[zaa];omega);have l2:(x.take (i+1)).length=i+1:=(by rw[zaa];omega);have lp:=JI (l:=l) (o:=o) (x:=x.take i) (by omega);apply IS;intro q;unfold br;rw[Zk (by omega) q,l2];by_cases e:q=o+i;subst e;rw[zbe (by omega),aq (by omega),ai (by omega),Nat.add_sub_cancel_left,zau,ai (by omega)];exact(getD_some 0 c).symm;rw[zbp (fun h=>e h.symm),Zk (by omega) q,l1];by_cases a:q<o;rw[ai a,ai a];rw[aq a,aq a];by_cases b:q<o+i;rw[ai b,ai (by omega),zau,zau,ai (by omega),ai (by omega)];rw[aq b,aq (by omega)]
theorem ank (x:Rg×T3×Int×U) (y:U) (h:AP x=some y):Up bW x=some y:=by obtain⟨⟨k,p,m⟩,⟨L,D,A⟩,n,x⟩:=x;simp only[AP] at h;split at h;rename_i j;rw[<-h];obtain⟨hr,d,c,l⟩:=j;dsimp only at hr d c l;obtain⟨n,rfl⟩:=nU d;have g:=mE hr;simp only[AT] at c⊢;have hnw:n*ar (k,p,m)<=1048576:=(by omega);have hn:n<=1048576:=(by have:=zbb n (show 0<ar (k,p,m) by omega);omega);simp only[Up,wM,aL,bE,ah];rw[g.1];rw[gd (fun i=>(((n:Int),x,((ar (k,p,m):Nat):Int),aK (aa x),(i:Int)),gf A (n*ar (k,p,m)) (x.take i),L,D)) (r:=gf A (n*ar (k,p,m)) x) x.length ?a1 ?a2 ?a3 dY];(case a3=>rw[List.take_zero];simp[gf]);(case a2=>dsimp only;rw[aW (o7 x),zaO];have:aa (gf A (n*ar (k,p,m)) x)=aa A:=JI c;rw[this,show lm (aa A) (aa A)=some () from ai rfl];simp only[aL]);(case a1=>intro i e;have l1:(x.take i).length=i:=(by rw[zaa];omega);have hl:aa (gf A (n*ar (k,p,m)) (x.take i))=A.length:=JI (by omega);dsimp only;rw[be (dt (by rw[nl];omega)),dw,getD_some 0 e];simp only[aL];rw[Js (a:=n) (b:=ar (k,p,m)) (by omega)];rw[dZ,show((n*ar (k,p,m):Nat):Int)+(i:Int)=((n*ar (k,p,m)+i:Nat):Int) by push_cast;rfl];rw[hl,kU (by omega)];simp only[aL,gW];obtain⟨v,f⟩:∃v,(gf A (n*ar (k,p,m)) (x.take i))[n*ar (k,p,m)+i]? =some v:=⟨_,co (show n*ar (k,p,m)+i<(gf A (n*ar (k,p,m)) (x.take i)).length by have:(gf A (n*ar (k,p,m)) (x.take i)).length=A.length:=hl;omega)⟩;rw[show bL (gf A (n*ar (k,p,m)) (x.take i)) (n*ar (k,p,m)+i)=some v from f];simp only[aL];have l2:(x.take (i+1)).length=i+1:=(by rw[zaa];omega);rw[atD c e,show aU 0 A.length (aa (gf A (n*ar (k,p,m)) (x.take (i+1))))=some () from ng (JI (by omega)).symm];simp only[aL];rw[dZ];rfl);cases h
theorem AG {r:Rg} (h:dA r=true):(dU r).length=ar r:=by have:=vF h;simp only[eD,AN,decide_eq_true_eq] at this;exact this.1
theorem HK {r:Rg} {D A:U} {c:gV} {N:Nat} (hr:dA r=true) (b:A.length=N*ar r):∀k,k<=N->(gp r D c A k).length=A.length
 |0,_=>rfl
 |k+1,hk=>by have a:=HK (D:=D) (c:=c) hr b k (by omega);have hm:(k+1)*ar r<=N*ar r:=zax _ hk;rw[zaI,zaC] at hm;unfold gp;split;rw[JI (by rw[AG hr,a];omega)];exact a;exact a
theorem Vj {r:Rg} {D A:U} {c:gV} {N:Nat} (hr:dA r=true) (l:A.length=N*ar r) (q:Nat):∀k,k<=N->(gp r D c A k)[q]? =if q/ar r<k/\qm D c (q/ar r)=true then(dU r)[q%ar r]? else A[q]?
 |0,_=>by rw[aq (fun h=>zbQ _ h.1)];rfl
 |k+1,hk=>by have i:=Vj (D:=D) (c:=c) hr l q k (by omega);have hw:=(mE hr).2.1;have hm:(k+1)*ar r<=N*ar r:=zax _ hk;rw[zaI,zaC] at hm;have hdm:=zaV q (ar r);have Qa:=zbF q (show 0<ar r by omega);unfold gp;by_cases g:qm D c k=true;rw[ai g,Zk (by rw[AG hr,HK hr l k (by omega)];omega),AG hr,i];by_cases e:q/ar r=k;subst e;rw[aq (by rw[zab];omega),ai (by rw[zab];omega),ai ⟨by omega,g⟩];congr 1;rw[zab];omega;have m:¬(¬q<k*ar r/\q<k*ar r+ar r):=(by rintro⟨f,d⟩;apply e;apply Nat.div_eq_of_lt_le;rw[zab];rw[zab] at f;omega;rw[zaI,zaC];omega);have j:(q/ar r<k/\qm D c (q/ar r)=true)↔(q/ar r<k+1/\qm D c (q/ar r)=true):=(by constructor;rintro⟨f,d⟩;exact⟨by omega,d⟩;rintro⟨f,d⟩;exact⟨by omega,d⟩);by_cases a:q<k*ar r;rw[ai a];exact Nl j _ _;rw[aq a,aq (fun b=>m ⟨a,b⟩)];exact Nl j _ _;rw[aq g,i];refine Nl ?_ _ _;constructor;rintro⟨f,d⟩;exact⟨by omega,d⟩;rintro⟨f,d⟩;refine⟨?_,d⟩;by_cases e:q/ar r=k;rw[e] at d;exact absurd d g;omega
theorem Pf {r:Rg} {D A:U} {c:gV} {N:Nat} (hr:dA r=true) (d:A.length=N*ar r):gp r D c A N=A↔∀n,n<N->qm D c n=true->fE A (n*ar r) (ar r)=dU r:=by have hw:=(mE hr).2.1;constructor;intro h n hn g;have hm:(n+1)*ar r<=N*ar r:=zax _ hn;rw[zaI,zaC] at hm;apply IS;intro j;unfold fE;rw[zau,za3];by_cases a:j<ar r;rw[ai a];have hd:(n*ar r+j)/ar r=n:=(by rw[zab,Nat.mul_add_div (by omega),zbJ a,zbj]);have i:(n*ar r+j)%ar r=j:=(by rw[zab,Nat.mul_add_mod,zaq a]);have:=Vj (D:=D) (c:=c) hr d (n*ar r+j) N (OF _);rw[h,hd,i,ai ⟨hn,g⟩] at this;exact this;rw[aq a,GB (by rw[AG hr];omega)];intro h;apply IS;intro q;rw[Vj hr d q N (OF _)];split;rename_i b;have:=h _ b.1 b.2;have f:=zbF q (show 0<ar r by omega);have e:=congrArg (fun l=>l[q%ar r]?) this;unfold fE at e;simp only[zau,za3,ai f] at e;rw[<-e];congr 1;rw[zab];exact zaV q (ar r);rfl
theorem aaq {L D A:U} {c:gV} {r:Rg} (o:f7 r (L,D,A)=true) (e:jQ ((L,D,A),c)=true) (n:Nat):GI (c,aD D n):=by
 obtain⟨_,⟨hl,hd⟩,_,_,_,p,_,_,_⟩:=j7 o;obtain⟨m,R⟩:=c;simp only[jQ,AN,decide_eq_true_eq] at e;obtain⟨_,hm,hR,h⟩:=e;have l:(aD D n).length=D.length:=ff _ _;refine⟨hm,by dsimp only;omega,fun i a=>?_⟩;dsimp only at a⊢;rw[l] at a;obtain⟨d,d1,k,j,d4,d5⟩:=HO p a;obtain⟨p1,g⟩:=h i (by omega);have b:(aD D n).getD i 0=((n/eV D (i+1)%d:Nat):Int):=by rw[BT a];unfold fD;rw[j]
 have cI:=zbF (n/eV D (i+1)) (show 0<d by omega);rw[k] at p1;have f:n/eV D (i+1)%d<(R.getD i []).length:=by omega
 refine⟨by omega,by rw[b,AT];exact⟨by omega,f⟩,?_⟩;unfold hH;rw[b,AT];have q:=RB.1 g;have:=q _ (IT (getD_some 0 f));exact⟨this.1,by have:=this.2;omega⟩
theorem aap {L D A:U} {c:gV} {r:Rg} (b:f7 r (L,D,A)=true) (a:jQ ((L,D,A),c)=true) (n:Nat):EA (c,aD D n)=some (sm D.length (hH c.2 (aD D n))%c.1):=by have h:=aaq b a n;have d:(aD D n).length=D.length:=ff _ _;rw[show EA (c,aD D n)=_ from ai h];dsimp only;rw[d]
theorem am4 (x:Rg×T3×gV) (y:T3×Bool) (h:AL x=some y):TZ bW x=some y:=by obtain⟨⟨k,p,m⟩,⟨L,D,A⟩,a,R⟩:=x;simp only[AL] at h;split at h;rename_i i;rw[<-h];have q:=i.2;obtain⟨⟨l1,l2,d⟩,_⟩:=i;dsimp only at l1 l2 d;unfold LC;simp only[TZ,ah];rw[show CG ((k,p,m),L,D,A)=some (f7 (k,p,m) (L,D,A)) from ai ⟨l1,l2,d⟩];simp only[aL];(cases ht:f7 (k,p,m) (L,D,A) with|false=>rw[be (b:=de false) rfl,aq (by simp)]|true=>rw[aW (b:=de true) rfl,show CE ((L,D,A),a,R)=some (jQ ((L,D,A),a,R)) from ai q];simp only[aL];cases j3:jQ ((L,D,A),a,R) with|false=>rw[be (b:=de false) rfl,aq (by simp)]|true=>rw[aW (b:=de true) rfl,ai (by simp)];obtain⟨hr,⟨hl,hd⟩,s9,⟨mQ,kf⟩,o,r,j,MJ,_⟩:=j7 ht;have hw:=mE hr;rw[show CH (L,D,A)=some (L,D,A) from ai ⟨l1,l2,d⟩];simp only[aL,bE];rw[show aU 0 0 (aa ([]:U))=some () from rfl];simp only[aL];rw[gd (fun n=>((n:Int),(k,p,m),(L,D,A),(a,R),([]:U),([]:U),([]:U),L,D,gp (k,p,m) D (a,R) A n)) (aB D) ?a1 ?a2 ?a3 dY];(case a3=>rfl);(case a2=>dsimp only;rw[show wN (D,4096)=some ((aB D:Nat):Int) by rw[<-j];exact ai ⟨by decide,l2,zap.2 fun v g=>by have:=hd v g;exact decide_eq_true (by omega)⟩];simp only[aL];rw[aW eB];try simp only[bE,aL]);(case a1=>intro n hn;have l:(gp (k,p,m) D (a,R) A n).length=A.length:=HK hr o n (by omega);have hm:(n+1)*ar (k,p,m)<=aB D*ar (k,p,m):=zax _ hn;rw[zaI,zaC] at hm;dsimp only;rw[show wN (D,4096)=some ((aB D:Nat):Int) by rw[<-j];exact ai ⟨by decide,l2,zap.2 fun v g=>by have:=hd v g;exact decide_eq_true (by omega)⟩];simp only[aL];rw[be dt,show Ez (D,(n:Int))=some (aD D n) from ai ⟨r,by dsimp only;omega,by dsimp only;omega⟩];simp only[aL,gj];rw[aap ht j3 n];simp only[aL];rw[dZ];by_cases c:qm D (a,R) n=true;have f:=of_decide_eq_true c;rw[be (show iQ _ 0=true from bne_iff_ne.2 f),show AO (k,p,m)=some (dU (k,p,m)) from ai hr];simp only[aL,gj,bE];rw[show AP ((k,p,m),(L,D,gp (k,p,m) D (a,R) A n),(n:Int),dU (k,p,m))=some (gf (gp (k,p,m) D (a,R) A n) (n*ar (k,p,m)) (dU (k,p,m))) from by simp only[AP];rw[ai ⟨hr,by dsimp only;omega,by dsimp only;rw[AG hr,l,AT];omega,by dsimp only;omega⟩];rfl];simp only[aL];have e:gp (k,p,m) D (a,R) A (n+1)=gf (gp (k,p,m) D (a,R) A n) (n*ar (k,p,m)) (dU (k,p,m)):=ai c;rw[show aU 0 (aa (gp (k,p,m) D (a,R) A n)) (aa (gf (gp (k,p,m) D (a,R) A n) (n*ar (k,p,m)) (dU (k,p,m))))=some () from ng (by rw[<-e];exact l.trans (HK hr o (n+1) (by omega)).symm)];simp only[aL];rw[<-e];rfl;have f:sm D.length (hH R (aD D n))%a=0:=za7 fun h=>c (decide_eq_true h);rw[f,aW (by rfl)];have e:gp (k,p,m) D (a,R) A (n+1)=gp (k,p,m) D (a,R) A n:=aq c;rw[e];rfl);simp only[bN,zav,kF,aL]);cases h
theorem amX (x:Rg×T3×Int) (y:Int×Int) (h:xP x=some y):TM bW x=some y:=by obtain⟨⟨k,p,m⟩,⟨L,D,A⟩,n⟩:=x;simp only[xP] at h;split at h;rename_i e;rw[<-h];obtain⟨hr,c,d,f⟩:=e;dsimp only at hr c d f;obtain⟨n,rfl⟩:=nU c;have g:=mE hr;simp only[AT] at d⊢;have i:(n+1)*ar (k,p,m)=n*ar (k,p,m)+ar (k,p,m):=(by rw[zaI,zaC]);have hn:n+1<=1048576:=(by have:=zbb (n+1) (show 0<ar (k,p,m) by omega);omega);simp only[TM,tY,aL];rw[g.1,dZ,show(n:Int)+1=((n+1:Nat):Int) by push_cast;rfl];rw[Js (a:=n) (b:=ar (k,p,m)) (by omega)];rw[Js (a:=n+1) (b:=ar (k,p,m)) (by omega)];rw[show jP ((n*ar (k,p,m):Nat):Int) (((n+1)*ar (k,p,m):Nat):Int) (aa A)=some (n*ar (k,p,m),ar (k,p,m)) by unfold jP aa;rw[ai ⟨by omega,by omega,by omega⟩];congr 2;omega];simp only[aL];rw[show dg (0:Int) (aa A)=some 0 by unfold dg aa;rw[ai ⟨by omega,by omega⟩];rfl];simp only[aL,aK,au,zat];rw[i];cases h
theorem amK (x:T3) (y:T3) (h:GV x=some y):Tv bW x=some y:=by obtain⟨L,D,A⟩:=x;simp only[GV,CH] at h;split at h;rename_i a;rw[<-h];obtain⟨h1,h2,h3⟩:=a;simp only[Tv];rw[show pP L=some L from ai (by omega),show pP D=some D from ai (by omega),show pP A=some A from ai (by omega)];simp only[aL,kF];cases h
theorem amx (x:Rg×T3×gV) (y:T3×Bool) (h:GR x=some y):Th bW x=some y:=by obtain⟨⟨k,p,m⟩,⟨L,D,A⟩,a,R⟩:=x;simp only[GR,AL] at h;split at h;rename_i s;rw[<-h];have C:=s.2;obtain⟨⟨l1,l2,g⟩,_⟩:=s;dsimp only at l1 l2 g;unfold LC;simp only[Th,ah];rw[show tT ((k,p,m),L,D,A)=some (f7 (k,p,m) (L,D,A)) from ai ⟨l1,l2,g⟩];simp only[aL];(cases ht:f7 (k,p,m) (L,D,A) with|false=>rw[be (b:=de false) rfl,aq (by simp)]|true=>rw[aW (b:=de true) rfl,show wJ ((L,D,A),a,R)=some (jQ ((L,D,A),a,R)) from ai C];simp only[aL];cases j3:jQ ((L,D,A),a,R) with|false=>rw[be (b:=de false) rfl,aq (by simp)]|true=>rw[aW (b:=de true) rfl,ai (by simp)];obtain⟨hr,⟨hl,hd⟩,s9,⟨mQ,kf⟩,t,E,j9,B,_⟩:=j7 ht;have hw:=mE hr;have r:tW D=some ((aB D:Nat):Int):=(by rw[<-B];exact ai ⟨.inl hl,hd⟩);rw[show GV (L,D,A)=some (L,D,A) from ai ⟨l1,l2,g⟩];simp only[aL,bE];rw[show aU 0 0 (aa ([]:U))=some () from rfl];simp only[aL];rw[gd (fun n=>((n:Int),(k,p,m),(L,D,A),(a,R),([]:U),([]:U),([]:U),L,D,gp (k,p,m) D (a,R) A n)) (aB D) ?a1 ?a2 ?a3 dY];(case a3=>rfl);(case a2=>dsimp only;rw[r];simp only[aL];rw[aW eB];try simp only[bE,aL]);(case a1=>intro n hn;have f:(gp (k,p,m) D (a,R) A n).length=A.length:=HK hr t n (by omega);have hm:(n+1)*ar (k,p,m)<=aB D*ar (k,p,m):=zax _ hn;have iL:(n+1)*ar (k,p,m)=n*ar (k,p,m)+ar (k,p,m):=(by rw[zaI,zaC]);have d:=aaq ht j3 n;have l:(aD D n).length=D.length:=ff _ _;have q:=Lq d (aD D n).length (OF _);have z:=d.1;dsimp only at z;dsimp only;rw[r];simp only[aL];rw[be dt,show CD (D,(n:Int))=some (aD D n) from ai ⟨E,by dsimp only;omega,by dsimp only;omega⟩];simp only[aL,gj];rw[show xO ((a,R),aD D n)=some (cE D.length (hH R (aD D n))) by rw[show xO ((a,R),aD D n)=_ from ai d];dsimp only;rw[l]];simp only[aL,gj];have u:sm D.length (fun i=>(cE D.length (hH R (aD D n))).getD i 0)=sm D.length (hH R (aD D n)):=Gy fun i o=>(by rw[zan,qM _ o];rfl);rw[show tZ (cE D.length (hH R (aD D n)))=some (sm D.length (hH R (aD D n))) by rw[show tZ (cE D.length (hH R (aD D n)))=_ from ai ⟨by rw[ff];exact hl,fun v w=>by obtain⟨i,o,rfl⟩:=zbh.1 w;exact(d.2.2 i (by dsimp only;rw[l];exact zaJ.1 o)).2.2⟩];rw[ff,u]];simp only[aL];rw[l] at q;rw[rD q.1 (by omega)];simp only[aL];rw[dZ];by_cases c:qm D (a,R) n=true;have j:=of_decide_eq_true c;rw[be (show iQ _ 0=true from bne_iff_ne.2 j)];(try simp only[aL,gj,bE]);rw[show xP ((k,p,m),(L,D,gp (k,p,m) D (a,R) A n),(n:Int))=some (((n*ar (k,p,m):Nat):Int),(((n+1)*ar (k,p,m):Nat):Int)) from ai ⟨hr,by dsimp only;omega,by dsimp only;rw[f,AT];omega,by dsimp only;omega⟩];simp only[aL];rw[show jP ((n*ar (k,p,m):Nat):Int) (((n+1)*ar (k,p,m):Nat):Int) (aa (gp (k,p,m) D (a,R) A n))=some (n*ar (k,p,m),ar (k,p,m)) by unfold jP aa;rw[ai ⟨by omega,by omega,by rw[f];omega⟩];congr 2;omega];simp only[aL];rw[show wL (k,p,m)=some (dU (k,p,m)) from ai hr];simp only[aL,gj];have e:gp (k,p,m) D (a,R) A (n+1)=gf (gp (k,p,m) D (a,R) A n) (n*ar (k,p,m)) (dU (k,p,m)):=ai c;rw[zbd (show(dU (k,p,m)).length<=ar (k,p,m) by rw[AG hr];exact OF _)];rw[show vC (gp (k,p,m) D (a,R) A n) (n*ar (k,p,m)) (ar (k,p,m)) (dU (k,p,m))=some (gf (gp (k,p,m) D (a,R) A n) (n*ar (k,p,m)) (dU (k,p,m))) from by unfold vC gf;rw[ai (by rw[f];omega)]];simp only[aL];rw[show aU 0 (aa (gp (k,p,m) D (a,R) A n)) (aa (gf (gp (k,p,m) D (a,R) A n) (n*ar (k,p,m)) (dU (k,p,m))))=some () from ng (by rw[<-e];exact f.trans (HK hr t (n+1) (by omega)).symm)];simp only[aL];rw[<-e];rfl;have j:sm D.length (hH R (aD D n))%a=0:=za7 fun h=>c (decide_eq_true h);rw[j,aW (by rfl)];have e:gp (k,p,m) D (a,R) A (n+1)=gp (k,p,m) D (a,R) A n:=aq c;(try simp only[bE,aL]);rw[e];rfl);simp only[bN,zav,kF,aL]);cases h
theorem uO {X Y:Type} {f:X->Option (X⊕Y)} (n:Nat) (I:Nat->X->Prop) (Q:Y->Prop) (j:∀i x,i<n->I i x->∃x',f x=some (.inl x')/\I (i+1) x') (o:∀x,I n x->∃r,f x=some (.inr r)/\Q r) {b:X} (g:I 0 b) {N:Nat} (a:n<N):∃r,bS N f b=some r/\Q r:=by have c:∀(k i:Nat) (x:X),i+k=n->I i x->∀N,k<N->∃r,bS N f x=some r/\Q r:=(by intro k;induction k with|zero=>intro i x m hx N a;obtain⟨N,rfl⟩:∃M,N=M+1:=⟨N - 1,by omega⟩;have:i=n:=(by omega);subst this;obtain⟨r,e,q⟩:=o x hx;exact⟨r,by simp only[bS,e],q⟩|succ k h=>intro i x m hx N a;obtain⟨N,rfl⟩:∃M,N=M+1:=⟨N - 1,by omega⟩;obtain⟨x',e,l⟩:=j i x (by omega) hx;obtain⟨r,d,q⟩:=h (i+1) x' (by omega) l N (by omega);exact⟨r,by simp only[bS,e];exact d,q⟩);exact c n 0 b (by omega) g N a
abbrev Cu:Type:=U×Int×Int
def jc (c:Cu):Prop:=0<=c.2.1/\c.1.length<=1048576
theorem abt (a:Int):0<=ub .i64 a 255/\ub .i64 a 255<=255:=by have e:ub .i64 a 255=IntKind.wrap .i64 (((zaN 64 a&&&zaN 64 255).toNat:Nat):Int):=rfl;have h:(zaN 64 a&&&zaN 64 255).toNat<=255:=(by rw[BitVec.toNat_and];exact zb6 Nat.and_le_right (by decide));rw[e];generalize (zaN 64 a&&&zaN 64 255).toNat=m at h;rw[S7 _ (by omega) (by omega)];omega
theorem uq {α:Type}:aU 0 0 (aa ([]:List α))=some ():=rfl
theorem sM {α:Type} (l:List α) (x:α):aU 0 (au (aa l) (aa [x])) (aa (ci l [x]))=some ():=by rw[show aa (ci l [x])=au (aa l) (aa [x]) by simp[au,aa,ci]];exact bE _
def Ua (NN:Nat):U->(Option (U×(Int×Int))):=
 (fun l0=>
 bN (bS NN (fun(l1,i2,i3)=>
 aA (cH i3 (aK (aa l1)))
 (aA (cH i3 (4000:Int))
 ((cg l1 i3).ae (fun i4=>
 some (wt (l1,ub .i64 (bt .i64 (bt .i64 (ik .i64 i2 131) (Vl .i64 i4)) (7:Int)) (1073741823:Int),bt .i64 i3 1))))
 (some (AI (wt (l1,i2)))))
 (some (AI (wt (l1,i2)))))
 (l0,bt .i64 (55127:Int) (aK (aa l0)),(0:Int)))
 (fun(l5,i6)=>
 some (l5,(0:Int),i6)))
def KR:=Ua bW
def Uu (NN:Nat):(U×Int)->(Option (U×(Int×Int))):=
 (fun(l0,i1)=>
 (KR l0).ae (fun(l2,i3,i4)=>
 some (l2,jM i1 (aK (aa l0)),ub .i64 (bt .i64 (bt .i64 (ik .i64 i4 31) (ik .i64 i1 7919)) (1:Int)) (1073741823:Int))))
def K4:=Uu bW
def T8 (NN:Nat):(U×(Int×Int))->(Option (Int×(U×(Int×Int)))):=
 (fun(l0,i1,i2)=>
 (Gw .i64 (bt .i64 (ik .i64 i2 6364136223846793005) (1442695040888963407:Int)) (33:Int)).ae (fun i3=>
 (Gw .i64 (bt .i64 (ik .i64 i2 6364136223846793005) (1442695040888963407:Int)) (45:Int)).ae (fun i4=>
 bN (aA (cH i1 (aK (aa l0)))
 ((cg l0 i1).ae (fun i5=>
 some (wt (ub .i64 (bt .i64 (ub .i64 (aaV .i64 i3 i4) (255:Int)) (Vl .i64 i5)) (255:Int),l0,bt .i64 i1 1,bt .i64 (ik .i64 i2 6364136223846793005) (1442695040888963407:Int)))))
 (some (wt (ub .i64 (aaV .i64 i3 i4) (255:Int),l0,i1,bt .i64 (ik .i64 i2 6364136223846793005) (1442695040888963407:Int)))))
 (fun(i6,l7,i8,i9)=>
 some (i6,l7,i8,i9)))))
def KQ:=T8 bW
def T7 (NN:Nat):((U×(Int×Int))×Int)->(Option (Int×(U×(Int×Int)))):=
 (fun((l0,i1,i2),i3)=>
 aA (gZ i3 (0:Int))
 (some ((0:Int),l0,i1,i2))
 ((KQ (l0,i1,i2)).ae (fun(i4,l5,i6,i7)=>
 (ja i4 i3).ae (fun i8=>
 some (i8,l5,i6,i7)))))
def sF:=T7 bW
def Ub (NN:Nat):((U×(Int×Int))×Int)->(Option (Bool×(U×(Int×Int)))):=
 (fun((l0,i1,i2),i3)=>
 (sF ((l0,i1,i2),i3)).ae (fun(i4,l5,i6,i7)=>
 some (bH i4 (0:Int),l5,i6,i7)))
def KS:=Ub bW
def Uc (NN:Nat):((U×(Int×Int))×U)->(Option (Int×(U×(Int×Int)))):=
 (fun((l0,i1,i2),l3)=>
 (sF ((l0,i1,i2),aK (aa l3))).ae (fun(i4,l5,i6,i7)=>
 (cg l3 i4).ae (fun i8=>
 some (i8,l5,i6,i7))))
def AM:=Uc bW
theorem akM (c:Cu) (h:jc c):∃x d,KQ c=some (x,d)/\(0<=x/\x<=255)/\jc d:=by obtain⟨l,i,k⟩:=c;obtain⟨a,b⟩:=h;dsimp only at a b;obtain⟨i,rfl⟩:=nU a;obtain⟨s1,f⟩:∃s,Gw .i64 (bt .i64 (ik .i64 k (6364136223846793005:Int)) (1442695040888963407:Int)) (33:Int)=some s:=⟨_,aq (by decide)⟩;obtain⟨s2,g⟩:∃s,Gw .i64 (bt .i64 (ik .i64 k (6364136223846793005:Int)) (1442695040888963407:Int)) (45:Int)=some s:=⟨_,aq (by decide)⟩;simp only[KQ,T8];rw[f,g];simp only[Option.ae,zav];by_cases e:i<l.length;rw[be (dt (by unfold aK aa;omega))];rw[dw,co e];simp only[bN,zav];refine⟨_,_,rfl,abt _,?_,b⟩;dsimp only;rw[dZ];omega;rw[aW (eB (by unfold aK aa;omega))];simp only[bN,zav];exact⟨_,_,rfl,abt _,a,b⟩
theorem x5 (c:Cu) (n:Int) (h:jc c) (hn:1<=n):∃x a,sF (c,n)=some (x,a)/\(0<=x/\x<n)/\x<=255/\jc a:=by obtain⟨l,i,k⟩:=c;obtain⟨x,⟨l',i',k'⟩,e,hx,b⟩:=akM _ h;simp only[sF,T7];rw[aW B7,e];simp only[Option.ae,zav];rw[rD hx.1 (by omega)];refine⟨_,_,rfl,⟨zai _ (by omega),Pd _ (by omega)⟩,?_,b⟩;have:=Pd x (show 0<n by omega);by_cases hl:x<n;rw[za8 hx.1 hl];omega;omega
theorem asb (c:Cu) (n:Int) (h:jc c) (hn:1<=n):∃b a,KS (c,n)=some (b,a)/\jc a:=by obtain⟨l,i,k⟩:=c;obtain⟨x,⟨l',i',k'⟩,e,_,_,d⟩:=x5 _ n h hn;simp only[KS,Ub];rw[e];exact⟨_,_,rfl,d⟩
theorem NW (c:Cu) (l:U) (h:jc c) (h1:l≠[]) (h2:l.length<=100):∃x d,AM (c,l)=some (x,d)/\x∈l/\jc d:=by
 obtain⟨cl,i,k⟩:=c;have hl:1<=l.length:=by rcases l with _|⟨a,l⟩<;>simp_all
 obtain⟨x,⟨l',i',k'⟩,e,hx,_,f⟩:=x5 (cl,i,k) (aK (aa l)) h (by unfold aK aa;omega);simp only[AM,Uc];rw[e];simp only[Option.ae,zav];obtain⟨j,rfl⟩:=nU hx.1;have b:j<l.length:=by unfold aK aa at hx;omega
 rw[dw,co b];exact⟨_,_,rfl,List.getElem_mem b,f⟩
theorem arZ (l:U) (h:l.length<=1048576):∃c,KR l=some c/\jc c:=by simp only[KR,Ua];generalize hL:bS bW _ _=o;obtain⟨r,rfl,z,rfl⟩:∃r,o=some r/\∃z,r=wt (l,z):=(by rw[<-hL];refine uO (min l.length 4000) (fun i (x:U×Int×Int)=>x.1=l/\x.2.2=(i:Int)) _ ?_ ?_ ⟨rfl,rfl⟩ dY;intro i x hi hx;obtain⟨l1,a,b⟩:=x;dsimp only at hx⊢;obtain⟨rfl,rfl⟩:=hx;rw[be (dt (by unfold aK aa;omega)),be dt,dw,co (by omega)];exact⟨_,rfl,rfl,dZ⟩;intro x hx;obtain⟨l1,a,b⟩:=x;dsimp only at hx⊢;obtain⟨rfl,rfl⟩:=hx;by_cases hc:l1.length<=4000;rw[aW (eB (by unfold aK aa;omega))];exact⟨_,rfl,_,rfl⟩;rw[be (dt (by unfold aK aa;omega)),aW eB];exact⟨_,rfl,_,rfl⟩);exact⟨_,rfl,zaB _,h⟩
theorem akg (l:U) (n:Int) (h:l.length<=1048576) (hn:0<=n):∃c,K4 (l,n)=some c/\jc c:=by obtain⟨⟨l',i',k'⟩,e,a⟩:=arZ l h;simp only[K4,Uu];rw[e];refine⟨_,rfl,?_,a.2⟩;dsimp only;rw[NH];unfold aK aa;omega
def afu (x:Int×oF×oF):Prop:=tC x.1/\F8 x.2.1/\F8 x.2.2/\(x.2.1.1*x.2.2.1<=4096/\x.2.1.2.1*x.2.2.2.1<=4096)/\(x.2.1.1*x.2.2.1)*(x.2.1.2.1*x.2.2.2.1)<=1048576/\vp x.1 x.2.1.2.2/\vp x.1 x.2.2.2.2
instance (x:Int×oF×oF):Decidable (afu x):=by unfold afu;infer_instance
section
variable {p:Int} {r c s d n m:Nat} {A B:fI} {a b a2 b2:U} {ms YM:List oF}
end

abbrev Wd:=U
structure BI (p:Int) (n t:Nat) (S:List Wd×U) (q:List Wd):Prop where
 dl:S.2.length=S.1.length*n
 dp:vp p S.2
 kn:S.1.length<=n
 qo:∀w∈q,SZ t w/\w.length<=S.1.length
 wo:∀w∈S.1,SZ t w/\w.length<=n
section
variable {p:Int} {n:Nat} {s b:U} {ms:List oF}
theorem BI.no {S:List Wd×U} {w:Wd} {q:List Wd} (h:BI p n ms.length S (w::q)):BI p n ms.length S q:=⟨h.dl,h.dp,h.kn,fun v a=>h.qo v (by simp[a]),h.wo⟩
end
end Go.Am
