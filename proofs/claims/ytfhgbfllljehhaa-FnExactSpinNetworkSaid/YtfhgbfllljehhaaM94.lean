/- S6, AmY, AmZ, S7, M110, MB, B0, B1, B2, MT, Mx, M1, M4, M5, M11, M22, M6, M7, M8, M9, M23, M24, M25, M31, Fm, M14, M15, M16, M17, M19, M33, M32, M34, M62, M64, M36, M18, M38, M48, M49, M50, M51, M52, M12, M20, M21, M53, M56, M65, M66, M94: parts of the proof. No condition. -/
import Derived.Test.YtfhgbfllljehhaaS5
import Derived.Laws.BitsLemmas
import Derived.Lib.BitFns
set_option linter.unusedVariables false
set_option linter.unusedSimpArgs false
set_option synthInstance.maxSize 1000
set_option synthInstance.maxHeartbeats 400000
set_option linter.unusedSectionVars false
open List renaming getElem?_eq_getElem->co,getD_eq_getElem?_getD->AI,map_cons->BY,map_congr_left->GB,getElem?_eq_some_iff->IN,getElem?_eq_none->IS,length_take->IT,length_cons->OF,replicate->Pe,getElem?_map->zab,mem_of_getElem?->zad,ext_getElem?->zae,length_append->zah,range->zai,map_map->zal,filterMap_cons->zam,getElem?_append_right->zao,getElem?_take->zap,mem_cons_of_mem->zaq,mem_iff_getElem->zar,length_map->zas,take_length->zat,mem_range->zay,getElem?_append_left->zaz,all_cons->zaB,getElem?_drop->zaC,mem_cons_self->zaE,length_nil->zaF,getElem?_set_self->zaH,take_add_one->zaI,drop_length->zaO,all_eq_true->zaP,mem_of_mem_take->zaQ,sum_cons->zaS,range'->zaV,getElem?_range->zaW,any_map->zaY,mem_singleton->za0,getElem?_eq_none_iff->za2,getElem?_zip_eq_some->za3,mem_cons->za6,getElem?_replicate->za8,nil_append->zbd,set_append_right->zbe,take_append_drop->zbf,map_append->zbg,map->zbk,getElem?_of_mem->zbl,mem_of_mem_drop->zbm,getElem?_set_ne->zbo,getElem_of_mem->zbr,replicate_succ->zbs,any_cons->zbw,getElem?_ofFn->zbx,set_cons_zero->zby,append_assoc->zbC,any_eq_false->zbD,mem_map->zbF,map_nil->zbG,cons_append->zbK,length_drop->zbL,length->zbQ,length_set->zbR,mem_append->zbV,range_succ->zbW,map_set->zb5,cons->zb7,getD->zb8
open Sum renaming inl->wt,inr->AN
open Nat renaming eq_of_beq_eq_true->AT,beq->zaa,le_refl->zac,mul_comm->zag,ble->zak,ble_eq_true_of_le->zau,zero_add->zav,mul_le_mul_right->zaw,one_mul->zaJ,add_mul->zaK,le_of_ble_eq_true->zaL,div_add_mod->zaX,sub_self->zaZ,eq_zero_or_pos->za1,add_mul_mod_self_left->za4,le_mul_of_pos_right->za9,mod_eq_of_lt->zba,beq_refl->zbb,pow_succ->zbi,lt_or_ge->zbj,pow_le_pow_right->zbn,mul_le_mul->zbp,mul_le_mul_left->zbv,add_sub_cancel->zbz,mul_assoc->zbA,add_zero->zbH,le_trans->zbI,zero_lt_succ->zbJ,div_eq_of_lt->zbM,lt_succ_self->zbN,not_lt_zero->zbU,mul_one->zbX,mod_lt->zbZ,le_of_dvd->zb3,and_assoc->zb4,add_comm->zb9,zero_le->zcd,mul_pos->zce,add_mod->zcf
open Bool renaming and_eq_true->By,false_eq_true->zaA,true_and->zaR,not_eq_true'->zbB,eq_iff_iff->zbO,false_or->zb0,or_false->zb1
open Int renaming toNat_natCast->If,mul_emod->zaf,mul_le_mul_of_nonneg_left->zaj,mul_le_mul->zax,emod_lt_of_pos->zaD,emod_emod->zaG,pow_succ->zaM,emod_add_mul_ediv->zaN,mul_assoc->zaT,emod_nonneg->zaU,mul_nonneg->zbq,one_mul->zbt,le_refl->zbu,emod_eq_of_lt->zbE,mul_one->zbS,min_eq_left->zbT,mul_neg->zbY,add_emod->zca,sub_emod->zcb,mul_comm->zcc
open Option renaming map_some->Pd,map_eq_some_iff->zan,bind_eq_some_iff->za7
open Function renaming comp->za5
open Classical renaming choose_spec->zbc
open Option.some renaming inj->zbh,injEq->zcg
open Array renaming replicate->zbP
open List.cons renaming inj->zb2
open Decidable renaming em->zb6
namespace Go.Am
def SC.fN (ok:Nat->Bool):SC->SC
 |.ptr n k sz off=>match ok n with|true=>.ptr n k sz off|false=>.bC
 |.sl n sz lo len=>match ok n with|true=>.sl n sz lo len|false=>.bC
 |.bz n k aD off sz len=>match ok n with|true=>.bz n k aD off sz len|false=>.bC
 |.cX n k aD off sz i=>match ok n with|true=>.cX n k aD off sz i|false=>.bC
 |.cO ts x off j n sz len=>match ok n with|true=>.cO ts x off j n sz len|false=>.bC
 |x=>x
def SC.df (ok:Nat->Bool):SC->SC
 |.fn f dR=>.fn f (dR.map (SC.fN ok))
 |.v t x=>.v t x
 |.nil ts=>.nil ts
 |.ptr n k sz off=>SC.fN ok (.ptr n k sz off)
 |.di ts x off=>.di ts x off
 |.sl n sz lo len=>SC.fN ok (.sl n sz lo len)
 |.bz n k aD off sz len=>SC.fN ok (.bz n k aD off sz len)
 |.cX n k aD off sz i=>SC.fN ok (.cX n k aD off sz i)
 |.cO ts x off j n sz len=>SC.fN ok (.cO ts x off j n sz len)
 |.bC=>.bC
theorem SC.CO (ok:Nat->Bool) (c:SC):(c.fN ok).er=c.er.fN ok:=by cases c with|ptr n k sz off=>simp only[SC.fN,SC.er,ah.fN];cases ok n<;>rfl|sl n sz lo len=>simp only[SC.fN,SC.er,ah.fN];cases ok n<;>rfl|bz n k a off sz len=>simp only[SC.fN,SC.er,ah.fN];cases ok n<;>rfl|cX n k a off sz i=>simp only[SC.fN,SC.er,ah.fN];cases ok n<;>rfl|cO ts x off j n sz len=>simp only[SC.fN,SC.er,ah.fN];cases ok n<;>rfl|_=>rfl
theorem SC.CP (ok:Nat->Bool) (c:SC):(c.df ok).er=c.er.df ok:=by cases c with|fn f dR=>simp only[SC.df,SC.er,ah.df,SC.Kh,zal];congr 1;exact GB fun c _=>SC.CO ok c|ptr n k sz off=>exact SC.CO ok (.ptr n k sz off)|sl n sz lo len=>exact SC.CO ok (.sl n sz lo len)|bz n k a off sz len=>exact SC.CO ok (.bz n k a off sz len)|cX n k a off sz i=>exact SC.CO ok (.cX n k a off sz i)|cO ts x off j n sz len=>exact SC.CO ok (.cO ts x off j n sz len)|_=>rfl
def SV.df (ok:Nat->Bool):SV->SV
 |.one c=>.one (c.df ok)
 |.agg cs=>.agg (cs.map (SC.df ok))
 |.bH xs=>.bH (xs.map fun x=>(x.1,x.2.map (SC.df ok)))
 |.arr ts x=>.arr ts x
 |.kZ ts x xs=>.kZ ts x (xs.map fun x=>(x.1,x.2.map (SC.df ok)))
theorem Pq (ok:Nat->Bool) (l:List C):(l.map ah.c).map (ah.df ok)=l.map .c:=by rw[zal];exact GB fun _ _=>rfl
theorem JV (ok:Nat->Bool) (cs:List SC):(cs.map (SC.df ok)).map SC.er=(cs.map SC.er).map (ah.df ok):=by simp only[zal];exact GB fun c _=>SC.CP ok c
theorem SV.CP (ok:Nat->Bool) (v:SV):(v.df ok).er=v.er.df ok:=by cases v with|one c=>simp only[SV.df,SV.er,ao.df,SC.CP]|agg cs=>simp only[SV.df,SV.er,ao.df,JV]|bH xs=>simp only[SV.df,SV.er,ao.df,zal];congr 1;exact GB fun x _=>by simp only[za5];rw[JV]|arr ts x=>simp only[SV.df,SV.er,ao.df,Pq]|kZ ts x xs=>simp only[SV.df,SV.er,ao.df,BY,Pq,zal];congr 2;exact GB fun x _=>by simp only[za5];rw[JV]
def SB.df (ok:Nat->Bool):SB->SB
 |.box cs=>.box (cs.map (SC.df ok))
 |.row gr m ts xs=>.row gr m ts xs
 |.eP ts x=>.eP ts x
theorem SB.CP (ok:Nat->Bool) (b:SB):(b.df ok).er=b.er.df ok:=by cases b with|box cs=>simp only[SB.df,SB.er,ar.df,JV]|row gr m ts xs=>rfl|eP ts x=>simp only[SB.df,SB.er,ar.df,Pq]
def BD (ok:Nat->Bool) (env:Nat->SV):List Nat->(Nat->SV)
 |[]=>fun _=>.one .bC
 |s::ss=>aI (BD ok env ss) s ((env s).df ok)
def xn (ok:Nat->Bool) (h:Nat->Option SB):List Nat->(Nat->Option SB)
 |[]=>fun _=>none
 |s::ss=>match ok s with
  |true=>match h s with
   |some b=>aI (xn ok h ss) s (some (b.df ok))
   |none=>xn ok h ss
  |false=>xn ok h ss
def tZ (ok:Nat->Bool):List Nat->(Nat->Bool)
 |[]=>fun _=>false
 |s::ss=>match ok s with
  |true=>aI (tZ ok ss) s true
  |false=>tZ ok ss
theorem ae7 (ok:Nat->Bool) (env:Nat->SV):∀l,tn (BD ok env l)=w9 ok (tn env) l
 |[]=>rfl
 |s::ss=>by simp only[BD,w9,C2,ae7 ok env ss,SV.CP];rfl
theorem MU (ok:Nat->Bool) (h:Nat->Option SB):∀l,dO (xn ok h l)=sG ok (dO h) l
 |[]=>rfl
 |s::ss=>by simp only[xn,sG];cases ok s with|false=>simp only[MU ok h ss,zaA,if_false]|true=>have:dO h s=(h s).map SB.er:=rfl;simp only[if_true,this];cases h s with|none=>simp only[Option.map_none,MU ok h ss]|some b=>simp only[Kd,MU ok h ss,Pd,SB.CP]
theorem ae8 (ok:Nat->Bool):∀l,tZ ok l=xc ok l
 |[]=>rfl
 |s::ss=>by simp only[tZ,xc];cases ok s<;>simp[ae8 ok ss]
theorem T5 (ok:Nat->Bool) (env:Nat->SV):∀(l:List Nat) (s:Nat),s∉l->BD ok env l s=.one .bC
 |[],s,_=>rfl
 |a::l,s,h=>by simp only[za6,not_or] at h;simp only[BD,cQ _ _ _ _ h.1,T5 ok env l s h.2]
theorem T6 (ok:Nat->Bool) (c:Nat->Option SB):∀(l:List Nat) (s:Nat),s∉l->xn ok c l s=none
 |[],s,_=>rfl
 |a::l,s,h=>by simp only[za6,not_or] at h;have d:=T6 ok c l s h.2;simp only[xn];cases ok a with|false=>exact d|true=>cases c a with|none=>exact d|some b=>simp only[cQ _ _ _ _ h.1];exact d
theorem T7 (ok:Nat->Bool):∀(l:List Nat) (s:Nat),s∉l->tZ ok l s=false
 |[],s,_=>rfl
 |a::l,s,h=>by simp only[za6,not_or] at h;have b:=T7 ok l s h.2;simp only[tZ];cases ok a with|false=>exact b|true=>simp only[cQ _ _ _ _ h.1];exact b
def SC.yZ (n:Nat):SC->Bool
 |.ptr m _ _ _=>zaa m n
 |.sl m _ _ _=>zaa m n
 |.bz m _ _ _ _ _=>zaa m n
 |.cX m _ _ _ _ _=>zaa m n
 |.cO _ _ _ _ m _ _=>zaa m n
 |_=>false
def SC.gY (n:Nat):SC->Bool
 |.fn _ dR=>dR.any (SC.yZ n)
 |.ptr m _ _ _=>zaa m n
 |.sl m _ _ _=>zaa m n
 |.bz m _ _ _ _ _=>zaa m n
 |.cX m _ _ _ _ _=>zaa m n
 |.cO _ _ _ _ m _ _=>zaa m n
 |.v _ _=>false
 |.nil _=>false
 |.di _ _ _=>false
 |.bC=>false
theorem CC (m n:Nat):(m==n)=zaa m n:=by rw[zbO,beq_iff_eq];exact⟨fun h=>by rw[h];exact zbb n,AT⟩
theorem SC.aqL (n:Nat) (c:SC):c.er.yZ n=c.yZ n:=by cases c<;>simp[SC.er,ah.yZ,SC.yZ,CC]
theorem SC.LY (n:Nat) (c:SC):c.er.gY n=c.gY n:=by cases c with|fn f dR=>simp only[SC.er,SC.Kh,ah.gY,SC.gY,zaY];congr 1;funext c;exact SC.aqL n c|ptr m _ _ _=>exact CC m n|sl m _ _ _=>exact CC m n|bz m _ _ _ _ _=>exact CC m n|cX m _ _ _ _ _=>exact CC m n|cO _ _ _ _ m _ _=>exact CC m n|_=>rfl
def SV.gY (n:Nat):SV->Bool
 |.one c=>c.gY n
 |.agg cs=>cs.any (SC.gY n)
 |.bH xs=>xs.any fun x=>x.2.any (SC.gY n)
 |.arr _ _=>false
 |.kZ _ _ xs=>xs.any fun x=>x.2.any (SC.gY n)
theorem Ps (n:Nat) (l:List C):(l.map ah.c).any (ah.gY n)=false:=by rw[zaY];induction l with|nil=>rfl|cons c l a=>rw[zbw,a];rfl
theorem LX (n:Nat) (cs:List SC):(cs.map SC.er).any (ah.gY n)=cs.any (SC.gY n):=by rw[zaY];congr 1;funext c;exact SC.LY n c
theorem SV.LY (n:Nat) (v:SV):v.er.gY n=v.gY n:=by cases v with|one c=>exact SC.LY n c|agg cs=>exact LX n cs|bH xs=>simp only[SV.er,ao.gY,SV.gY,zaY];congr 1;funext x;exact LX n x.2|arr ts x=>exact Ps n _|kZ ts x xs=>have e:=Ps n (Ty.aA ts x);simp only[SV.er,ao.gY,SV.gY,zbw];refine(congrArg (·||_) e).trans ?_;rw[zb0,zaY];congr 1;funext x;exact LX n x.2
def acZ (n:Nat):Option SB->Bool
 |some (.box cs)=>cs.any (SC.gY n)
 |_=>false
def Kc (n:Nat):List Nat->Bool
 |[]=>false
 |m::l=>match zaa n m with
  |true=>true
  |false=>Kc n l
theorem Wt (n:Nat):∀l:List Nat,Kc n l=l.contains n
 |[]=>rfl
 |m::l=>by simp only[Kc,List.contains_cons];have e:(n==m)=zaa n m:=(by cases h:zaa n m with|true=>simpa using AT h|false=>simp;intro h';rw[h',zbb] at h;cases h);rw[e,Wt n l];cases zaa n m<;>rfl
def ai.j6 (σ:ai) (ke kh:List Nat):Nat->Bool:=fun n=>(σ.h n).isSome&&Kc n kh&&(zak aX n||ke.any (fun s=>(σ.env s).gY n)||kh.any fun k=>acZ n (σ.h k))
theorem ai.apa (σ:ai) (ke a:List Nat):σ.er.j6 ke a=σ.j6 ke a:=by
 funext n;simp only[St.j6,ai.j6];have e:(σ.er.h n).isSome=(σ.h n).isSome:=Wz σ.h n;have d:(fun s=>(σ.er.env s).gY n)=fun s=>(σ.env s).gY n:=by funext s;exact SV.LY n _
 have c:(fun k=>match σ.er.h k with|some (.box cs)=>cs.any (·.gY n)|_=>false)=fun k=>acZ n (σ.h k):=by
  funext k;have:σ.er.h k=(σ.h k).map SB.er:=rfl;rw[this];cases σ.h k with
  |none=>rfl
  |some b=>cases b with
   |box cs=>exact LX n cs
   |row gr m ts xs=>rfl
   |eP ts x=>exact Ps n _
 rw[e,d,Wt,Bool.and_comm (x:=(σ.h n).isSome)];exact congrArg (fun g:Nat->Bool=>(a.contains n&&(σ.h n).isSome&&((zak aX n||ke.any fun s=>SV.gY n (σ.env s))||a.any g))) c
def ai.jA (σ:ai) (ke kh:List Nat):ai:=
 {env:=BD (σ.j6 ke kh) σ.env ke,h:=xn (σ.j6 ke kh) σ.h kh,used:=fun n=>zak aX n||tZ (σ.j6 ke kh) kh n}
theorem ai.Tk (σ:ai) (ke a:List Nat):(σ.jA ke a).er=σ.er.jA ke a:=by simp only[ai.jA,St.jA,ai.apa];have d:=ae7 (σ.j6 ke a) σ.env ke;have b:=MU (σ.j6 ke a) σ.h a;have c:=ae8 (σ.j6 ke a) a;show St.mk (tn (BD (σ.j6 ke a) σ.env ke)) (dO (xn (σ.j6 ke a) σ.h a)) (fun n=>zak aX n||tZ (σ.j6 ke a) a n)=_;rw[d,b,c];rfl
def sS (x c n:Nat):Nat:=match zaa n x with|true=>c|false=>n
theorem EQ (x c n:Nat):sS x c n=oI x c n:=by unfold sS oI;cases h:zaa n x with|true=>rw[ak (AT h)]|false=>rw[aq (fun e=>by rw[e,zbb] at h;cases h)]
def SC.pn (x c:Nat):SC->SC
 |.ptr n k sz off=>.ptr (sS x c n) k sz off
 |.sl n sz lo len=>.sl (sS x c n) sz lo len
 |.bz n k aD off sz len=>.bz (sS x c n) k aD off sz len
 |.cX n k aD off sz i=>.cX (sS x c n) k aD off sz i
 |.cO ts y off j n sz len=>.cO ts y off j (sS x c n) sz len
 |y=>y
def SC.bf (x c:Nat):SC->SC
 |.fn f dR=>.fn f (dR.map (SC.pn x c))
 |.ptr n k sz off=>.ptr (sS x c n) k sz off
 |.sl n sz lo len=>.sl (sS x c n) sz lo len
 |.bz n k aD off sz len=>.bz (sS x c n) k aD off sz len
 |.cX n k aD off sz i=>.cX (sS x c n) k aD off sz i
 |.cO ts y off j n sz len=>.cO ts y off j (sS x c n) sz len
 |.v t y=>.v t y
 |.nil ts=>.nil ts
 |.di ts y off=>.di ts y off
 |.bC=>.bC
theorem SC.aqQ (x c:Nat) (y:SC):(y.pn x c).er=y.er.pn x c:=by cases y<;>simp[SC.pn,SC.er,ah.pn,EQ]
theorem SC.y4 (x c:Nat) (y:SC):(y.bf x c).er=y.er.bf x c:=by cases y with|fn f dR=>simp only[SC.bf,SC.er,ah.bf,SC.Kh,zal];congr 1;exact GB fun y _=>SC.aqQ x c y|ptr n k sz off=>simp only[SC.bf,SC.er,ah.bf,ah.pn,EQ]|sl n sz lo len=>simp only[SC.bf,SC.er,ah.bf,ah.pn,EQ]|bz n k a off sz len=>simp only[SC.bf,SC.er,ah.bf,ah.pn,EQ]|cX n k a off sz i=>simp only[SC.bf,SC.er,ah.bf,ah.pn,EQ]|cO ts y off j n sz len=>simp only[SC.bf,SC.er,ah.bf,ah.pn,EQ]|_=>rfl
theorem L0 (x c:Nat) (cs:List SC):(cs.map (SC.bf x c)).map SC.er=(cs.map SC.er).map (ah.bf x c):=by simp only[zal];exact GB fun y _=>SC.y4 x c y
def SV.bf (x c:Nat):SV->SV
 |.one y=>.one (y.bf x c)
 |.agg ys=>.agg (ys.map (SC.bf x c))
 |.bH ys=>.bH (ys.map fun y=>(y.1,y.2.map (SC.bf x c)))
 |.arr ts y=>.arr ts y
 |.kZ ts z ys=>.kZ ts z (ys.map fun y=>(y.1,y.2.map (SC.bf x c)))
theorem Pt (x c:Nat) (l:List C):(l.map ah.c).map (ah.bf x c)=l.map .c:=by rw[zal];exact GB fun _ _=>rfl
theorem SV.y4 (x c:Nat) (v:SV):(v.bf x c).er=v.er.bf x c:=by cases v with|one y=>simp only[SV.bf,SV.er,ao.bf,SC.y4]|agg cs=>simp only[SV.bf,SV.er,ao.bf,L0]|bH xs=>simp only[SV.bf,SV.er,ao.bf,zal];congr 1;exact GB fun y _=>by simp only[za5];rw[L0]|arr ts y=>simp only[SV.bf,SV.er,ao.bf,Pt]|kZ ts z xs=>simp only[SV.bf,SV.er,ao.bf,BY,Pt,zal];congr 2;exact GB fun y _=>by simp only[za5];rw[L0]
def SB.bf (x c:Nat):SB->SB
 |.box cs=>.box (cs.map (SC.bf x c))
 |.row gr m ts xs=>.row gr m ts xs
 |.eP ts y=>.eP ts y
theorem SB.y4 (x c:Nat) (b:SB):(b.bf x c).er=b.er.bf x c:=by cases b with|box cs=>simp only[SB.bf,SB.er,ar.bf,L0]|row gr m ts xs=>rfl|eP ts y=>simp only[SB.bf,SB.er,ar.bf,Pt]
def ai.bf (σ:ai) (x c:Nat):Option ai:=
  match zaa x c with
  |true=>some σ
  |false=>match zak aX x with
   |true=>some σ
   |false=>match σ.used c with
    |true=>none
    |false=>some
     {env:=fun s=>(σ.env s).bf x c
      h:=fun n=>match zaa n c with
        |true=>(σ.h x).map (SB.bf x c)
        |false=>match zaa n x with
         |true=>none
         |false=>(σ.h n).map (SB.bf x c)
      used:=fun n=>match zaa n c with
        |true=>σ.used x
        |false=>match zaa n x with
         |true=>false
         |false=>σ.used n}
theorem yR {m n:Nat} (h:zaa m n=false):m≠n:=fun e=>by rw[e,zbb] at h;cases h
theorem ai.y4 {σ σ1:ai} {x c:Nat} (h:σ.bf x c=some σ1):σ.er.bf x c=some σ1.er:=by
 unfold ai.bf at h;split at h
 ·rename_i e;injection h with h;subst h;simp[St.bf,AT e]
 ·rename_i e;split at h
  ·rename_i hx;injection h with h;subst h;simp only[St.bf,aq (yR e),hx,if_true]
  rename_i hx;split at h
  ·cases h
  ·rename_i i;injection h with h;subst h;have f:σ.er.used c=false:=i;simp only[St.bf,aq (yR e),hx,f,zaA,if_false];congr 1;have mm:∀o:Option SB,(o.map (SB.bf x c)).map SB.er=(o.map SB.er).map (·.bf x c):=by
    intro o;cases o with
    |none=>rfl
    |some b=>simp only[Pd,SB.y4]
   have g:(fun s=>(σ.er.env s).bf x c)=tn (fun s=>(σ.env s).bf x c):=by
    funext s;exact(SV.y4 x c (σ.env s)).symm
   have a:(fun n=>if n=c then(σ.er.h x).map (·.bf x c) else if n=x then none else(σ.er.h n).map (·.bf x c))=dO (fun n=>match zaa n c with
     |true=>(σ.h x).map (SB.bf x c)
     |false=>match zaa n x with
      |true=>none
      |false=>(σ.h n).map (SB.bf x c)):=by
    funext n;simp only[dO];cases hc:zaa n c with
    |true=>rw[ak (AT hc)];exact(mm (σ.h x)).symm
    |false=>
     rw[aq (yR hc)];cases hx:zaa n x with
     |true=>rw[ak (AT hx)];rfl
     |false=>rw[aq (yR hx)];exact(mm (σ.h n)).symm
   have d:(fun n=>if n=c then σ.er.used x else if n=x then false else σ.er.used n)=(fun n=>match zaa n c with
     |true=>σ.used x
     |false=>match zaa n x with
      |true=>false
      |false=>σ.used n):=by
    funext n;cases hc:zaa n c with
    |true=>rw[ak (AT hc)];rfl
    |false=>
     rw[aq (yR hc)];cases hx:zaa n x with
     |true=>rw[ak (AT hx)]
     |false=>rw[aq (yR hx)];rfl
   rw[g,a,d];rfl
abbrev Cn:=List (Bool×Nat×Nat×Nat×Mode×List Ty)
def Cn.er (cn:Cn):List (Bool×Nat×Nat×Nat×Mode):=cn.map fun x=>(x.1,x.2.1,x.2.2.1,x.2.2.2.1,x.2.2.2.2.1)
def ai.lc (σ:ai) (c:Nat):Mode->ai
 |.aM=>match σ.h c with
  |some (.row gr .aN ts xs)=>σ.ef c (.row gr .aM ts xs)
  |_=>σ
 |_=>σ
theorem ai.ahW (σ:ai) (c:Nat) (m:Mode):(σ.lc c m).er=σ.er.lc c m:=by cases m with|live=>rfl|aN=>rfl|aM=>simp only[ai.lc,St.lc];have a:σ.er.h c=(σ.h c).map SB.er:=rfl;rw[a];cases σ.h c with|none=>rfl|some b=>cases b with|box cs=>rfl|row gr m ts xs=>(cases m with|aN=>simp only[Pd,SB.er,ai.oQ]|live=>rfl|aM=>rfl)|eP ts x=>rfl
def y9 (σ:ai):Bool×Nat×Nat×Nat×Mode×List Ty->Option ai
 |(true,n,j,c,m,us)=>match σ.h n with
  |some (.box cs)=>match cs[j]? with
   |some (.sl a _ _ _)=>(σ.bf a c).map fun σ1=>σ1.lc c m
   |some (.nil ts)=>match ts with
    |[]=>some σ
    |t::ts=>match σ.ins c (.row true m (t::ts) []) with
     |some σ1=>some (σ1.ef n (.box (cs.set j (.sl c (t::ts).length 0 0))))
     |none=>none
   |_=>some σ
  |_=>some σ
 |(false,n,j,c,m,us)=>match σ.env n with
  |.one (.sl a _ _ _)=>(σ.bf a c).map fun σ1=>σ1.lc c m
  |.one (.nil ts)=>match ts with
   |[]=>some σ
   |t::ts=>match σ.ins c (.row true m (t::ts) []) with
    |some σ1=>some (σ1.put (some n) (.one (.sl c (t::ts).length 0 0)))
    |none=>none
  |_=>some σ
theorem ae6 {σ σ1:ai} {a c:Nat} {m:Mode} (h:(σ.bf a c).map (fun σ1=>σ1.lc c m)=some σ1):(σ.er.bf a c).map (fun σ1=>σ1.lc c m)=some σ1.er:=by rw[zan] at h;obtain⟨σ2,e,rfl⟩:=h;rw[ai.y4 e,Pd,ai.ahW]
theorem art {σ σ1:ai} {x:Bool×Nat×Nat×Nat×Mode×List Ty} (h:y9 σ x=some σ1):σ.er.canon (x.1,x.2.1,x.2.2.1,x.2.2.2.1,x.2.2.2.2.1)=some σ1.er:=by obtain⟨b,n,j,c,m,us⟩:=x;cases b with|true=>simp only[y9] at h;simp only[St.canon];have g:σ.er.h n=(σ.h n).map SB.er:=rfl;rw[g];split at h;rename_i cs hn;simp only[hn,Pd,SB.er,zab];split at h;rename_i a _ _ _ d;simp only[d,Pd,SC.er];exact ae6 h;rename_i ts d;simp only[d,Pd,SC.er];split at h;injection h with h;subst h;rfl;rename_i t ts;split at h;rename_i σ2 e;injection h with h;subst h;have i:=ai.tp e;rw[show(SB.row true m (t::ts) []).er=ar.row true m (t::ts).length [] from rfl] at i;simp only[OF,zbJ,if_true] at i⊢;rw[i];simp only[ai.oQ,SB.er,zb5,SC.er,OF];cases h;rename_i f k;injection h with h;subst h;(cases d:cs[j]? with|none=>rfl|some y=>cases y<;>first|rfl|(exfalso;exact f _ _ _ _ d)|(exfalso;exact k _ d));rename_i l;injection h with h;subst h;(cases hn:σ.h n with|none=>rfl|some b=>cases b with|box cs=>exact absurd hn (l cs)|row gr m ts xs=>rfl|eP ts x=>simp only[Pd,SB.er,zab];cases (Ty.aA ts x)[j]? <;>rfl)|false=>simp only[y9] at h;simp only[St.canon];have g:σ.er.env n=(σ.env n).er:=rfl;rw[g];split at h;rename_i a _ _ _ hn;simp only[hn,SV.er,SC.er];exact ae6 h;rename_i ts hn;simp only[hn,SV.er,SC.er];split at h;injection h with h;subst h;rfl;rename_i t ts;split at h;rename_i σ2 e;injection h with h;subst h;have i:=ai.tp e;rw[show(SB.row true m (t::ts) []).er=ar.row true m (t::ts).length [] from rfl] at i;simp only[OF,zbJ,if_true] at i⊢;rw[i];simp only[ai.ew,SV.er,SC.er,OF];cases h;rename_i f k;injection h with h;subst h;cases hn:σ.env n with|one y=>(cases y<;>first|rfl|(exfalso;exact f _ _ _ _ hn)|(exfalso;exact k _ hn))|_=>rfl
def EB (σ:ai):Cn->Option ai
 |[]=>some σ
 |x::l=>match y9 σ x with
  |some σ1=>EB σ1 l
  |none=>none
theorem aez:∀{a:Cn} {σ σ1:ai},EB σ a=some σ1->σ.er.uw a.er=some σ1.er
 |[],σ,σ1,h=>by simp only[EB] at h;injection h with h;subst h;rfl
 |x::l,σ,σ1,h=>by simp only[EB] at h;split at h;rename_i σ2 e;have i:=art e;have j:=aez h;simp only[Cn.er] at j;simp only[Cn.er,BY,St.uw,i,j];cases h
section
variable {ρ:Type}
def yQ (n:Nat) (k:Nat->Option ρ):List Nat->Option ρ
 |[]=>k n
 |c::l=>match zaa n c with
  |true=>k c
  |false=>yQ n k l
theorem ab8 (n:Nat) (k:Nat->Option ρ):∀l,yQ n k l=k n
 |[]=>rfl
 |c::l=>by simp only[yQ];split;rename_i e;rw[AT e];exact ab8 n k l
def P6 (kh:List Nat) (c:SC) (k:SC->Option ρ):Option ρ:=
 match c with
 |.v t x=>k (.v t x)
 |.nil ts=>k (.nil ts)
 |.ptr n kk sz off=>yQ n (fun n=>k (.ptr n kk sz off)) kh
 |.di ts x off=>k (.di ts x off)
 |.sl n sz lo len=>yQ n (fun n=>k (.sl n sz lo len)) kh
 |.bz n a b c d e=>yQ n (fun n=>k (.bz n a b c d e)) kh
 |.cX n a b c d e=>yQ n (fun n=>k (.cX n a b c d e)) kh
 |.cO ts x off j n sz len=>yQ n (fun n=>k (.cO ts x off j n sz len)) kh
 |.fn f dR=>k (.fn f dR)
 |.bC=>k .bC
theorem Yb (a:List Nat) (c:SC) (k:SC->Option ρ):P6 a c k=k c:=by cases c<;>first|rfl|exact ab8 _ _ _
def Gi (kh:List Nat):List SC->(List SC->Option ρ)->Option ρ
 |[],k=>k []
 |c::cs,k=>P6 kh c fun c=>Gi kh cs fun cs=>k (c::cs)
theorem P7 (a:List Nat):∀(cs:List SC) (k:List SC->Option ρ),Gi a cs k=k cs
 |[],k=>rfl
 |c::cs,k=>by simp only[Gi,Yb,P7 a cs]
def tv (kh:List Nat) (env:Nat->SV):List Nat->(List (Nat×SV)->Option ρ)->Option ρ
 |[],k=>k []
 |s::ss,k=>match env s with
  |.one .bC=>tv kh env ss k
  |.one c=>P6 kh c fun c=>tv kh env ss fun l=>k ((s,.one c)::l)
  |.agg cs=>Gi kh cs fun cs=>tv kh env ss fun l=>k ((s,.agg cs)::l)
  |.bH xs=>tv kh env ss fun l=>k ((s,.bH xs)::l)
  |.arr ts x=>tv kh env ss fun l=>k ((s,.arr ts x)::l)
  |.kZ ts x xs=>tv kh env ss fun l=>k ((s,.kZ ts x xs)::l)
def uK (kh:List Nat) (h:Nat->Option SB):List Nat->(List (Nat×Option SB)->Option ρ)->Option ρ
 |[],k=>k []
 |n::ns,k=>match h n with
  |none=>uK kh h ns k
  |some (.box cs)=>Gi kh cs fun cs=>uK kh h ns fun l=>k ((n,some (.box cs))::l)
  |some (.row gr m ts xs)=>uK kh h ns fun l=>k ((n,some (.row gr m ts xs))::l)
  |some (.eP ts x)=>uK kh h ns fun l=>k ((n,some (.eP ts x))::l)
def Ar (u:Nat->Bool):List Nat->(List Nat->Option ρ)->Option ρ
 |[],k=>k []
 |n::ns,k=>match u n with
  |true=>Ar u ns fun l=>k (n::l)
  |false=>Ar u ns k
def xr:List Nat->Nat->Bool
 |[],n=>zak aX n
 |m::l,n=>match zaa n m with
  |true=>true
  |false=>xr l n
def ai.C8 (ke kh:List Nat) (σ:ai) (k:ai->Option ρ):Option ρ:=
 tv kh σ.env ke fun le=>uK kh σ.h kh fun lh=>Ar σ.used kh fun lu=>k ⟨nk le,kO lh,xr lu⟩
structure jF (ke kh:List Nat) (σ:ai):Prop where
 e:∀s,s∉ke->σ.env s=.one .bC
 h:∀n,n∉kh->σ.h n=none
 u:∀n,n∉kh->σ.used n=zak aX n
 p:∀n,σ.used n=false->zak aX n=false
theorem Yc (i:List Nat) (env:Nat->SV):∀(d:List Nat) (k:List (Nat×SV)->Option ρ),∃l:List (Nat×SV),tv i env d k=k l/\∀s,nk l s=if s∈d then env s else .one .bC
 |[],k=>⟨[],rfl,fun s=>by simp[nk]⟩
 |a::d,k=>by
  have h:∀v:SV,env a=v->(∀k':List (Nat×SV)->Option ρ,∃l,tv i env d k'=k' l/\∀s,nk l s=if s∈d then env s else .one .bC)->
    ∃l:List (Nat×SV),tv i env d (fun l=>k ((a,v)::l))=k l/\∀s,nk l s=if s∈a::d then env s else .one .bC:=by
   intro v b g;obtain⟨l,j,m⟩:=g fun l=>k ((a,v)::l);refine⟨(a,v)::l,j,fun s=>?_⟩;simp only[nk,kE];split
   ·rename_i e;subst e;rw[ak (by simp)];exact b.symm
   ·rename_i o;rw[m s];by_cases f:s∈d
    ·rw[ak f,ak (by simp[f])]
    ·rw[aq f,aq (by simp[f,o])]
  have g:=fun k':List (Nat×SV)->Option ρ=>Yc i env d k';simp only[tv];split
  ·rename_i b;obtain⟨l,j,m⟩:=g k;refine⟨l,j,fun s=>?_⟩;rw[m s];by_cases f:s∈d
   ·rw[ak f,ak (by simp[f])]
   ·rw[aq f];by_cases n:s=a
    ·subst n;rw[ak (by simp),b]
    ·rw[aq (by simp[f,n])]
  ·rename_i c hc b;rw[Yb];exact h _ b g
  ·rename_i cs b;rw[P7];exact h _ b g
  ·rename_i xs b;exact h _ b g
  ·rename_i ts x b;exact h _ b g
  ·rename_i ts x xs b;exact h _ b g
theorem Yd (f:List Nat) (h:Nat->Option SB):∀(ns:List Nat) (k:List (Nat×Option SB)->Option ρ),∃l:List (Nat×Option SB),uK f h ns k=k l/\∀n,kO l n=if n∈ns then h n else none
 |[],k=>⟨[],rfl,fun s=>by simp[kO]⟩
 |a::ns,k=>by
  have g:∀v:Option SB,h a=v->(∀k':List (Nat×Option SB)->Option ρ,∃l,uK f h ns k'=k' l/\∀s,kO l s=if s∈ns then h s else none)->
    ∃l:List (Nat×Option SB),uK f h ns (fun l=>k ((a,v)::l))=k l/\∀s,kO l s=if s∈a::ns then h s else none:=by
   intro v b d;obtain⟨l,i,j⟩:=d fun l=>k ((a,v)::l);refine⟨(a,v)::l,i,fun s=>?_⟩;simp only[kO,kE];split
   ·rename_i e;subst e;rw[ak (by simp)];exact b.symm
   ·rename_i p;rw[j s];by_cases c:s∈ns
    ·rw[ak c,ak (by simp[c])]
    ·rw[aq c,aq (by simp[c,p])]
  have d:=fun k':List (Nat×Option SB)->Option ρ=>Yd f h ns k';simp only[uK];split
  ·rename_i b;obtain⟨l,i,j⟩:=d k;refine⟨l,i,fun s=>?_⟩;rw[j s];by_cases c:s∈ns
   ·rw[ak c,ak (by simp[c])]
   ·rw[aq c];by_cases o:s=a
    ·subst o;rw[ak (by simp),b]
    ·rw[aq (by simp[c,o])]
  ·rename_i cs b;rw[P7];exact g _ b d
  ·rename_i gr m ts xs b;exact g _ b d
  ·rename_i ts x b;exact g _ b d
theorem P8 (u:Nat->Bool) (d:∀n,u n=false->zak aX n=false):∀(ns:List Nat) (k:List Nat->Option ρ),∃l:List Nat,Ar u ns k=k l/\∀n,xr l n=if n∈ns then u n else zak aX n
 |[],k=>⟨[],rfl,fun s=>by simp[xr]⟩
 |a::ns,k=>by simp only[Ar];split;rename_i c;obtain⟨l,g,f⟩:=P8 u d ns fun l=>k (a::l);refine⟨a::l,g,fun s=>?_⟩;simp only[xr];split;rename_i e;have:=AT e;subst this;rw[ak (by simp)];exact c.symm;rename_i e;have i:=yR e;rw[f s];by_cases b:s∈ns;rw[ak b,ak (by simp[b])];rw[aq b,aq (by simp[b,i])];rename_i c;obtain⟨l,g,f⟩:=P8 u d ns k;refine⟨l,g,fun s=>?_⟩;rw[f s];by_cases b:s∈ns;rw[ak b,ak (by simp[b])];rw[aq b];by_cases h:s=a;subst h;rw[ak (by simp),c,d _ c];rw[aq (by simp[b,h])]
theorem Kw {ke a:List Nat} {σ:ai} (W:jF ke a σ) (k:ai->Option ρ):σ.C8 ke a k=k σ:=by unfold ai.C8;obtain⟨le,l,f⟩:=Yc a σ.env ke fun le=>uK a σ.h a fun c=>Ar σ.used a fun b=>k ⟨nk le,kO c,xr b⟩;rw[l];obtain⟨c,o,j⟩:=Yd a σ.h a fun c=>Ar σ.used a fun b=>k ⟨nk le,kO c,xr b⟩;rw[o];obtain⟨b,m,u2⟩:=P8 σ.used W.p a fun b=>k ⟨nk le,kO c,xr b⟩;rw[m];have g:nk le=σ.env:=(by funext s;rw[f s];split;rfl;rename_i d;exact(W.e s d).symm);have i:kO c=σ.h:=(by funext s;rw[j s];split;rfl;rename_i d;exact(W.h s d).symm);have n:xr b=σ.used:=(by funext s;rw[u2 s];split;rfl;rename_i d;exact(W.u s d).symm);rw[g,i,n]
theorem jF.jA (ke b:List Nat) (σ:ai):jF ke b (σ.jA ke b):= ⟨fun s c=>T5 _ _ _ s c,fun n hn=>T6 _ _ _ n hn,fun n hn=>by show(zak aX n||tZ _ _ n)=_;rw[T7 _ _ n hn,zb1], fun n hn=>by have a:(zak aX n||tZ _ _ n)=false:=hn;simp only[Bool.or_eq_false_iff] at a;exact a.1⟩
theorem jF.bf {ke b:List Nat} {σ σ1:ai} {a c:Nat} (W:jF ke b σ) (d:c∈b) (h:σ.bf a c=some σ1):jF ke b σ1:=by unfold ai.bf at h;split at h;injection h with h;subst h;exact W;split at h;injection h with h;subst h;exact W;rename_i oV;split at h;cases h;rename_i g;injection h with h;subst h;refine⟨fun s f=>?_,fun n hn=>?_,fun n hn=>?_,fun n hn=>?_⟩;show(σ.env s).bf a c=_;rw[W.e s f];rfl;simp only;split;rename_i e;exact absurd (by rw[AT e];exact d) hn;split;rfl;rw[W.h n hn];rfl;simp only;split;rename_i e;exact absurd (by rw[AT e];exact d) hn;split;rename_i e;rw[AT e,oV];exact W.u n hn;simp only at hn;split at hn;rename_i e;rw[AT e];exact W.p c g;split at hn;rename_i e;rw[AT e,oV];exact W.p n hn
theorem jF.ins {ke d:List Nat} {σ σ1:ai} {c:Nat} {b:SB} (W:jF ke d σ) (f:c∈d) (h:σ.ins c b=some σ1):jF ke d σ1:=by unfold ai.ins at h;split at h;cases h;rename_i KN;injection h with h;subst h;refine⟨W.e,fun n hn=>?_,fun n hn=>?_,fun n hn=>?_⟩;show aI σ.h c _ n=_;rw[cQ _ _ _ _ (fun e=>hn (by rw[e];exact f))];exact W.h n hn;show aI σ.used c _ n=_;rw[cQ _ _ _ _ (fun e=>hn (by rw[e];exact f))];exact W.u n hn;have a:aI σ.used c true n=false:=hn;by_cases e:n=c;subst e;rw[cr] at a;cases a;rw[cQ _ _ _ _ e] at a;exact W.p n a
theorem jF.lc {ke b:List Nat} {σ:ai} (W:jF ke b σ) (c:Nat) (m:Mode):jF ke b (σ.lc c m):=by cases m with|live=>exact W|aN=>exact W|aM=>simp only[ai.lc];split;rename_i gr ts xs hn;exact⟨W.e,fun n a=>by show aI σ.h c _ n=none;have d:n≠c:=fun e=>(by subst e;rw[W.h n a] at hn;cases hn);rw[cQ _ _ _ _ d];exact W.h n a,W.u,W.p⟩;exact W
theorem jF.Iv {ke b:List Nat} {σ σ1:ai} {a c:Nat} {m:Mode} (W:jF ke b σ) (d:c∈b) (h:(σ.bf a c).map (fun σ1=>σ1.lc c m)=some σ1):jF ke b σ1:=by rw[zan] at h;obtain⟨σ2,e,rfl⟩:=h;exact(W.bf d e).lc c m
theorem jF.canon {ke d:List Nat} {σ σ1:ai} {x:Bool×Nat×Nat×Nat×Mode×List Ty} (W:jF ke d σ) (f:x.2.2.2.1∈d) (h:y9 σ x=some σ1):jF ke d σ1:=by obtain⟨b,n,j,c,m,us⟩:=x;simp only at f;have ig:some σ=some σ1->jF ke d σ1:=fun h=>(by injection h with h;subst h;exact W);cases b with|true=>simp only[y9] at h;split at h;rename_i cs hn;split at h;exact W.Iv f h;split at h;exact ig h;split at h;rename_i σ2 e;injection h with h;subst h;have a:=W.ins f e;have i:n∈d:=(by rcases zb6 (n∈d) with h|h;exact h;rw[W.h n h] at hn;cases hn);exact⟨a.e,fun q g=>by show aI σ2.h n _ q=_;rw[cQ _ _ _ _ (fun e=>g (by rw[e];exact i))];exact a.h q g,a.u,a.p⟩;cases h;exact ig h;exact ig h|false=>simp only[y9] at h;split at h;exact W.Iv f h;rename_i ts hn;split at h;exact ig h;split at h;rename_i σ2 e;injection h with h;subst h;have a:=W.ins f e;have i:n∈ke:=(by rcases zb6 (n∈ke) with h|h;exact h;rw[W.e n h] at hn;cases hn);exact⟨fun q g=>by show aI σ2.env n _ q=_;rw[cQ _ _ _ _ (fun e=>g (by rw[e];exact i))];exact a.e q g,a.h,a.u,a.p⟩;cases h;exact ig h
def Mh (ke kh:List Nat):Cn->ai->(ai->Option ρ)->Option ρ
 |[],σ,k=>k σ
 |x::l,σ,k=>match y9 σ x with
  |some σ1=>match List.elem x.2.2.2.1 kh with
   |true=>σ1.C8 ke kh fun σ2=>Mh ke kh l σ2 k
   |false=>none
  |none=>none
theorem aey {ke b:List Nat}:∀{a:Cn} {σ:ai} {k:ai->Option ρ} {r:ρ},jF ke b σ->Mh ke b a σ k=some r->∃σ1,EB σ a=some σ1/\k σ1=some r
 |[],σ,k,r,W,h=>⟨σ,rfl,h⟩
 |x::l,σ,k,r,W,h=>by simp only[Mh] at h;split at h;rename_i σ1 e;split at h;rename_i hm;have c:=W.canon (by simpa using hm) e;rw[Kw c] at h;obtain⟨σ2,f,d⟩:=aey c h;exact⟨σ2,by simp only[EB,e,f],d⟩;cases h;cases h
def EF (sh:kL) (kh:List Nat) (cn:Cn) (σ:ai) (k:sh.L.D->Option ρ):Option ρ:=
 (σ.jA sh.ke kh).C8 sh.ke kh fun σ1=>(σ1.jA sh.ke kh).C8 sh.ke kh fun σ2=>Mh sh.ke kh cn σ2 fun gZ=>(gZ.jA sh.ke kh).C8 sh.ke kh fun σ4=>sh.flat kh σ4 k
theorem MG {a:kL} {c:List Nat} {b:Cn} {σ:ai} {k:a.L.D->Option ρ} {r:ρ} (h:EF a c b σ k=some r): ∃x,σ.er.head a.ke c b.er=some (a.un x).er/\k x=some r:=by unfold EF at h;rw[Kw (jF.jA _ _ _),Kw (jF.jA _ _ _)] at h;obtain⟨σ1,e,h⟩:=aey (jF.jA _ _ _) h;rw[Kw (jF.jA _ _ _)] at h;obtain⟨x,f,d⟩:=kL.qJ h (fun s g=>T5 _ _ _ s g) (fun n hn=>⟨T6 _ _ _ n hn,by show(zak aX n||tZ _ _ n)=_;rw[T7 _ _ n hn,zb1]⟩);have i:=aez e;rw[ai.Tk,ai.Tk] at i;exact⟨x,by simp only[St.head,i,<-f,ai.Tk],d⟩
end
inductive bB where
 |skip
 |fE (ni:Bool) (ops:List dB)
 |sF (ps:List (Nat×Nat)) (ops:List dB)
 |tV (ni:Bool) (ps:List (Nat×Nat)) (ops:List dB) (sp:Fw)
 |seq (a b:bB)
 |cond (c:cR) (a b:bB)
 |block (id:Nat) (c:bB)
 |join (sh:kL) (kh:List Nat) (cn:Cn) (c:bB)
 |loop (id:Nat) (sh:kL) (kh:List Nat) (cn:Cn) (c:bB)
 |exit (id:Nat)
 |ret
def bB.er:bB->kJ
 |.skip=>.skip
 |.fE d ops=>.fE d (ops.map dB.er)
 |.sF ps ops=>.sF ps (ops.map dB.er)
 |.tV dr ps ops sp=>.tV dr ps (ops.map dB.er) sp.er
 |.seq a b=>.seq a.er b.er
 |.cond c a b=>.cond c.er a.er b.er
 |.block id c=>.block id c.er
 |.join sh kh cn c=>.join sh.ke kh cn.er c.er
 |.loop id sh kh cn c=>.loop id sh.ke kh cn.er c.er
 |.exit id=>.exit id
 |.ret=>.ret
def ai.Sm (σ:ai) (c:cR) (b:Bool):ai:=
 match c with
 |.t n=>σ.lit n b
 |.k _=>σ
def yr {X ρ:Type} (o:Option ρ):Option (X⊕ρ):=o.ae fun r=>some (.inr r)
theorem DU {X ρ:Type} {o:Option ρ} {s:X⊕ρ} (h:yr o=some s):∃r,o=some r/\s=.inr r:=by unfold yr at h;rw[eC] at h;obtain⟨r,b,a⟩:=h;injection a with a;exact⟨r,b,a.symm⟩
def mA (N:Nat) (T:List aw):bB->{ρ:Type}->ai->(ai->Option ρ)->(Nat->ai->Option ρ)->(ai->Option ρ)->Option ρ
 |.skip,_,σ,k,_,_=>k σ
 |.fE _ ops,_,σ,k,_,_=>qj T ops σ k
 |.sF ps ops,_,σ,k,_,_=>sO T ps ops [] σ k
 |.tV false _ ops sp,_,σ,k,_,_=>qj T ops σ fun σ1=>MR sp σ1 k
 |.tV true ps ops sp,_,σ,k,_,_=>none
 |.seq a b,_,σ,k,ex,kr=>mA N T a σ (fun σ1=>mA N T b σ1 k ex kr) ex kr
 |.cond c a b,_,σ,k,ex,kr=>match σ.ev c with
  |.one (.v .bool t)=>au t (mA N T a (σ.Sm c true) k ex kr) (mA N T b (σ.Sm c false) k ex kr)
  |_=>none
 |.block id c,_,σ,k,ex,kr=>mA N T c σ k (fun i σ1=>match zaa i id with|true=>k σ1|false=>ex i σ1) kr
 |.join sh kh cn c,ρ,σ,k,ex,kr=>
  cT (mA N T c (ρ:=sh.L.D⊕ρ) σ (fun σ1=>EF sh kh cn σ1 fun x=>some (.inl x)) (fun i σ1=>yr (ex i σ1)) (fun σ1=>yr (kr σ1))) fun x=>k (sh.un x)
 |.loop id sh kh cn c,ρ,σ,k,ex,kr=>
  EF sh kh cn σ fun x0=>cd N (fun x=>mA N T c (ρ:=sh.L.D⊕ρ) (sh.un x) (fun σ1=>EF sh kh cn σ1 fun x'=>some (.inl x')) (fun i σ1=>yr (ex i σ1)) (fun σ1=>yr (kr σ1))) x0
 |.exit id,_,σ,_,ex,_=>ex id σ
 |.ret,_,σ,_,_,kr=>kr σ
def U5 {ρ:Type} (k:ai->Option ρ) (ex:Nat->ai->Option ρ) (kr:ai->Option ρ) (r:ρ):s8->Prop
 |.fR τ=>∃fk:ai,τ=fk.er/\k fk=some r
 |.ext i τ=>∃fk:ai,τ=fk.er/\ex i fk=some r
 |.ret τ=>∃fk:ai,τ=fk.er/\kr fk=some r
theorem aar {σ:ai} {c:cR} {b:Bool} (h:σ.ev c=.one (.v .bool b)):(σ.Sm c b).er=σ.er:=by cases c with|t n=>exact ai.F5 h|k v=>rfl
theorem sM {T:List aw}:∀(m:bB) {ρ:Type} {σ:ai} {k:ai->Option ρ} {l:Nat->ai->Option ρ} {p:ai->Option ρ} {r:ρ},mA aK T m σ k l p=some r->
    ∃o:s8,dZ (cV T) m.er σ.er=some o/\U5 k l p r o
  |.skip,ρ,σ,k,l,p,r,h=>⟨.fR σ.er,rfl,σ,rfl,h⟩
  |.fE d ops,ρ,σ,k,l,p,r,h=>by
   obtain⟨σ1,g,f⟩:=Mj (h:qj T ops σ k=some r);exact⟨.fR σ1.er,by simp only[bB.er,dZ,g],σ1,rfl,f⟩
  |.sF ps ops,ρ,σ,k,l,p,r,h=>by
   obtain⟨σ1,fs,g,f,q⟩:=TJ (h:sO T ps ops [] σ k=some r);exact⟨.fR σ1.er,by simp only[bB.er,dZ,g,f,cond_true],σ1,rfl,q⟩
  |.tV false ps ops sp,ρ,σ,k,l,p,r,h=>by
   obtain⟨σ1,g,f⟩:=Mj (h:qj T ops σ (fun σ1=>MR sp σ1 k)=some r);obtain⟨σ2,q,u⟩:=arX f;exact⟨.fR σ2.er,by simp only[bB.er,dZ,g,q],σ2,rfl,u⟩
  |.tV true ps ops sp,ρ,σ,k,l,p,r,h=>by
   cases h
  |.seq a b,ρ,σ,k,l,p,r,h=>by
   obtain⟨o,g,f⟩:=sM a (h:mA aK T a σ (fun σ1=>mA aK T b σ1 k l p) l p=some r);cases o with
   |fR τ=>
    obtain⟨j,rfl,f⟩:=f;obtain⟨G,q,u⟩:=sM b f;exact⟨G,by simp only[bB.er,dZ,g,q],u⟩
   |ext i τ=>exact⟨.ext i τ,by simp only[bB.er,dZ,g],f⟩
   |ret τ=>exact⟨.ret τ,by simp only[bB.er,dZ,g],f⟩
  |.cond c a b,ρ,σ,k,l,p,r,h=>by
   simp only[mA] at h;split at h
   · rename_i t B;have E:σ.er.ev c.er=.one (.c (.bool t)):=by rw[ai.eD,B];rfl
     cases ht:(t:Bool) with
     |true=>
      rw[ht] at h;simp only[JW] at h;obtain⟨o,g,f⟩:=sM a h;rw[aar (by rw[B,ht])] at g;exact⟨o,by simp only[bB.er,dZ,E,ht,if_true,g],f⟩
     |false=>
      rw[ht] at h;simp only[FK] at h;obtain⟨o,g,f⟩:=sM b h;rw[aar (by rw[B,ht])] at g;exact⟨o,by simp only[bB.er,dZ,E,ht,zaA,if_false,g],f⟩
   · cases h
  |.block id c,ρ,σ,k,l,p,r,h=>by
   obtain⟨o,g,f⟩:=sM c (h:mA aK T c σ k (fun i σ1=>match zaa i id with|true=>k σ1|false=>l i σ1) p=some r)
   cases o with
   |fR τ=>exact⟨.fR τ,by simp only[bB.er,dZ,g],f⟩
   |ret τ=>exact⟨.ret τ,by simp only[bB.er,dZ,g],f⟩
   |ext i τ=>
    obtain⟨j,rfl,f⟩:=f;simp only at f;split at f
    · rename_i e;exact⟨.fR j.er,by simp only[bB.er,dZ,g,ak (AT e)],j,rfl,f⟩
    · rename_i e;exact⟨.ext i j.er,by simp only[bB.er,dZ,g,aq (yR e)],j,rfl,f⟩
  |.join sh kh cn c,ρ,σ,k,l,p,r,h=>by
   simp only[mA,cT,za7] at h;obtain⟨s,H,h⟩:=h;obtain⟨o,g,f⟩:=sM c H;cases o with
   |fR τ=>
    obtain⟨j,rfl,f⟩:=f;obtain⟨x,q,u⟩:=MG f;injection u with u;subst u;exact⟨.fR (sh.un x).er,by simp only[bB.er,dZ,g,q],sh.un x,rfl,h⟩
   |ext i τ=>
    obtain⟨j,rfl,f⟩:=f;obtain⟨y,q,rfl⟩:=DU f;injection h with h;subst h;exact⟨.ext i j.er,by simp only[bB.er,dZ,g],j,rfl,q⟩
   |ret τ=>
    obtain⟨j,rfl,f⟩:=f;obtain⟨y,q,rfl⟩:=DU f;injection h with h;subst h;exact⟨.ret j.er,by simp only[bB.er,dZ,g],j,rfl,q⟩
  |.loop id sh kh cn c,ρ,σ,k,l,p,r,h=>by
   simp only[mA] at h;obtain⟨v,w,h⟩:=MG h;simp only[bB.er,dZ];have F:∀(n:Nat) (v:sh.L.D) (z:St),z.head sh.ke kh cn.er=some (sh.un v).er->
       cd n (fun x=>mA aK T c (ρ:=sh.L.D⊕ρ) (sh.un x) (fun σ1=>EF sh kh cn σ1 fun x'=>some (.inl x')) (fun i σ1=>yr (l i σ1)) (fun σ1=>yr (p σ1))) v=some r->
       ∃o:s8,Ea n (fun σ=>match σ.head sh.ke kh cn.er with|some σ1=>dZ (cV T) c.er σ1|none=>none) z=some o/\U5 k l p r o:=by
    intro n;induction n with
    |zero=>intro v z w h;simp[cd] at h
    |succ n I=>
     intro v z w h;simp only[cd] at h;simp only[Ea,w];split at h
     · rename_i x' A;obtain⟨o,g,f⟩:=sM c A;cases o with
       |fR τ=>
        obtain⟨j,rfl,f⟩:=f;obtain⟨C,q,u⟩:=MG f;injection u with u;injection u with u;subst u;simp only[g];exact I C _ q h
       |ext i τ=>
        obtain⟨j,rfl,f⟩:=f;obtain⟨y,_,e⟩:=DU f;cases e
       |ret τ=>
        obtain⟨j,rfl,f⟩:=f;obtain⟨y,_,e⟩:=DU f;cases e
     · rename_i y A;injection h with h;subst h;obtain⟨o,g,f⟩:=sM c A;cases o with
       |fR τ=>
        obtain⟨j,rfl,f⟩:=f;obtain⟨C,q,u⟩:=MG f;injection u with u;cases u
       |ext i τ=>
        obtain⟨j,rfl,f⟩:=f;obtain⟨y',q,e⟩:=DU f;injection e with e;subst e;exact⟨.ext i j.er,by simp only[g],j,rfl,q⟩
       |ret τ=>
        obtain⟨j,rfl,f⟩:=f;obtain⟨y',q,e⟩:=DU f;injection e with e;subst e;exact⟨.ret j.er,by simp only[g],j,rfl,q⟩
     · cases h
   exact F aK v σ.er w h
  |.exit id,ρ,σ,k,l,p,r,h=>⟨.ext id σ.er,rfl,σ,rfl,h⟩
  |.ret,ρ,σ,k,l,p,r,h=>⟨.ret σ.er,rfl,σ,rfl,h⟩
def rk:kJ->Bool
 |.skip|.ret|.exit _=>true
 |.fE _ ops|.sF _ ops=>ops.all fun o=>zak o.op.eT 1
 |.seq a b=>rk a&&rk b
 |.cond _ a b=>rk a&&rk b
 |.block _ c=>rk c
 |_=>false
structure fK (σ σ':St):Prop where
 h:∀n,σ.used n=true->σ'.h n=σ.h n
 u:∀n,σ.used n=true->σ'.used n=true
theorem fK.refl (σ:St):fK σ σ:=⟨fun _ _=>rfl,fun _ h=>h⟩
theorem fK.trans {σ σ1 σ2:St} (a:fK σ σ1) (b:fK σ1 σ2):fK σ σ2:=⟨fun n hn=>(b.h n (a.u n hn)).trans (a.h n hn),fun n hn=>b.u n (a.u n hn)⟩
theorem fK.put (σ:St) (d:Option Nat) (v:ao):fK σ (σ.put d v):=by cases d<;>exact⟨fun _ _=>rfl,fun _ h=>h⟩
theorem fK.dg:∀{l:List (Nat×ar)} {σ σ':St},σ.dg l=some σ'->fK σ σ'
 |[],σ,σ',h=>by simp only[St.dg] at h;injection h with h;subst h;exact fK.refl _
 |(n,b)::l,σ,σ',h=>by simp only[St.dg] at h;split at h;rename_i σ1 e;obtain⟨a,rfl⟩:=oA e;refine fK.trans ⟨fun m hm=>?_,fun m hm=>?_⟩ (fK.dg h);show aI σ.h n (some b) m=_;rw[cQ _ _ _ _ (fun e=>by subst e;rw[a] at hm;cases hm)];show aI σ.used n true m=true;rw[kE];split;rfl;exact hm;cases h
theorem fK.exec {T:aQ} {d:Option Nat} {op:aV} {σ σ':St} (a:zak op.eT 1=true) (h:exec T d op σ=some σ'):fK σ σ':=by rw[qG T d op σ (zaL a)] at h;cases hr:rd T d op σ.ev σ.h with|none=>rw[hr] at h;cases h|some x=>rw[hr] at h;simp only[Option.bind_some,fz] at h;rw[zan] at h;obtain⟨σ1,b,rfl⟩:=h;exact(fK.dg b).trans (fK.put _ _ _)
theorem fK.ez {T:aQ} {o:bO} {σ σ':St} (a:zak o.op.eT 1=true) (h:ez T o σ=some σ'):fK σ σ':=by unfold Am.ez at h;split at h;exact fK.exec a h;split at h;split at h;exact fK.exec a h;injection h with h;subst h;exact fK.put _ _ _;injection h with h;subst h;exact fK.put _ _ _;cases h
theorem fK.fy {T:aQ}:∀{os:List bO} {σ σ':St},os.all (fun o=>zak o.op.eT 1)=true->fy T os σ=some σ'->fK σ σ'
 |[],σ,σ',_,h=>by simp only[Am.fy] at h;injection h with h;subst h;exact fK.refl _
 |o::os,σ,σ',hc,h=>by simp only[zaB,By] at hc;simp only[Am.fy] at h;split at h;rename_i σ1 e;exact(fK.ez hc.1 e).trans (fK.fy hc.2 h);cases h
theorem fK.nq {T:aQ}:∀{os:List bO} {a b:List (Option FP)} {σ σ':St},os.all (fun o=>zak o.op.eT 1)=true->nq T os a σ=some (b,σ')->fK σ σ'
 |[],a,b,σ,σ',_,h=>by simp only[Am.nq] at h;injection h with h;injection h with _ h;subst h;exact fK.refl _
 |o::os,a,b,σ,σ',hc,h=>by simp only[zaB,By] at hc;simp only[Am.nq] at h;split at h;rename_i σ1 e;exact(fK.ez hc.1 e).trans (fK.nq hc.2 h);cases h
def s8.st:s8->St
 |.fR σ=>σ
 |.ext _ σ=>σ
 |.ret σ=>σ
theorem Bn {T:aQ}:∀(j:kJ) {σ:St} {o:s8},rk j=true->dZ T j σ=some o->fK σ o.st
 |.skip,σ,o,_,h=>by simp only[dZ] at h;injection h with h;subst h;exact fK.refl _
 |.ret,σ,o,_,h=>by simp only[dZ] at h;injection h with h;subst h;exact fK.refl _
 |.exit i,σ,o,_,h=>by simp only[dZ] at h;injection h with h;subst h;exact fK.refl _
 |.fE d ops,σ,o,hc,h=>by simp only[dZ] at h;split at h;rename_i σ1 e;injection h with h;subst h;exact fK.fy hc e;cases h
 |.sF ps ops,σ,o,hc,h=>by simp only[dZ] at h;split at h;rename_i k σ1 e;(cases hp:wX ps k with|true=>rw[hp] at h;injection h with h;subst h;exact fK.nq hc e|false=>rw[hp] at h;cases h);cases h
 |.seq a b,σ,o,hc,h=>by simp only[rk,By] at hc;simp only[dZ] at h;cases e:dZ T a σ with|none=>rw[e] at h;cases h|some g=>have f:=Bn a hc.1 e;rw[e] at h;cases g with|fR σ1=>exact f.trans (Bn b hc.2 h)|ext i σ1=>injection h with h;subst h;exact f|ret σ1=>injection h with h;subst h;exact f
 |.cond c a b,σ,o,hc,h=>by simp only[rk,By] at hc;simp only[dZ] at h;split at h;split at h;exact Bn a hc.1 h;exact Bn b hc.2 h;cases h
 |.block id c,σ,o,hc,h=>by simp only[rk] at hc;simp only[dZ] at h;cases e:dZ T c σ with|none=>rw[e] at h;cases h|some g=>have f:=Bn c hc e;rw[e] at h;cases g with|fR σ1=>injection h with h;subst h;exact f|ret σ1=>injection h with h;subst h;exact f|ext i σ1=>simp only at h;split at h<;>(injection h with h;subst h;exact f)
 |.join ..,_,_,hc,_=>by simp[rk] at hc
 |.loop ..,_,_,hc,_=>by simp[rk] at hc
def St.Ew (σ:St) (ms:List bE):Option (Nat×Nat):=
 match σ.rj ms with
 |some [.one (.sl n sz lo len)]=>if n=aX then match σ.h aX with
  |some (.row _ _ rs (_::_))=>if sz=rs then some (lo,len) else none
  |_=>none
  else none
 |_=>none
def L9 (T:aQ) (mc:kJ) (aC:List bE) (sig:bP) (ds:List Dv):Option (Nat×Nat):=
 match dS sig (ds.map (·.2)) with
 |[_]=>match dZ T mc (oz sig ds) with
  |some (.fR σ)=>σ.Ew aC
  |some (.ret σ)=>σ.Ew aC
  |_=>none
 |_=>none
section
variable {B:Nat} {E:Ex} {w0 w w':World} {G G':Gh} {N:Nat} {h h':Nat->Option ar} {used:Nat->Bool}
variable {P:Program} {T:aQ} {a:Act} {σ σ':St} {Q:Exit->Act->World->Prop}
theorem alE (sig:bP) (ds:List Dv):(oz sig ds).h aX=((dS sig (ds.map (·.2)))[aX - aX]?).bind lQ:=by have a:∀n,aX<=n->(oz sig ds).h n=((dS sig (ds.map (·.2)))[n - aX]?).bind lQ:=fun n hn=>ak hn;exact a aX (zac aX)
theorem alF (sig:bP) (ds:List Dv):(oz sig ds).used aX=true:=by have a:∀n,aX<=n->(oz sig ds).used n=true:=fun n hn=>zau hn;exact a aX (zac aX)
theorem ahX (x:Mode×PC):(rQ [x]).pi aX=some (oH x.2):=by
 have b:∀n,aX<=n->n - aX=0->(rQ [x]).pi n=some (oH x.2):=fun n hn a=>by
  show(if aX<=n then([x][n - aX]?).map _ else none)=_
  rw[ak hn,a];rfl
 exact b aX (zac aX) (zaZ aX)
theorem asQ (hT:m4 P T) (hm:P.follows .mixedOrders=true) {f:FuncId} {fn:Func} {c:Code} {u:kJ} {ms:List bE} {sig:bP} {M:List Dv->Option (Nat×Nat)} (hf:P.funcs[f]? =some fn) (hb:fn.body=some c)
  (hc:jG P fn.ntmps c u=true) (hr:nT P fn.results.toList ms=true) (KK:rk u=true) (hM:∀ds lo len,M ds=some (lo,len)->ds.length<=fn.ntmps/\L9 T u ms sig ds=some (lo,len)):Cs P f sig M:=by
 intro ds lo len kN w vals z j;obtain⟨hN,k⟩:=hM ds lo len kN;refine calls_of_wp hf hb ?_;have U:=R.Hm (N:=fn.ntmps) j hN;have fW:∀p∈z,∀pc∈p.ps,Good w pc:=by
  intro p B pc cg;obtain⟨i,A,rfl⟩:=zbr B;have hd:ds[i]? =some (ds[i]'(by rw[<-j.l2];exact A)):=co _;have E:vals[i]? =some (vals[i]'(by rw[j.l1,<-j.l2];exact A)):=co _;exact(j.at_ i _ _ _ hd E (co A)).2.1 pc cg
 have L:∀x∈dS sig (z.map (·.ps)),Good w x.2:=by
  intro x hx;obtain⟨l,hl,o6⟩:=F8 hx;obtain⟨p,B,rfl⟩:=zbF.1 hl;exact fW p B _ o6
 have Gw:ds.map (·.2)=(z.map (·.ps)).map fun l=>l.map PC.er:=by
  apply zae;intro i;simp only[zab];cases hd:ds[i]? with
  |none=>
   have:ds.length<=i:=za2.1 hd;rw[IS (by rw[j.l2];exact this)];rfl
  |some d=>
   have A:=(IN.1 hd).1;have E:vals[i]? =some (vals[i]'(by rw[j.l1];exact A)):=co _;have B:z[i]? =some (z[i]'(by rw[j.l2];exact A)):=co _;have:=(j.at_ i d _ _ hd E B).1;rw[B];simp only[Pd];rw[this]
 have Z:(oz sig ds).h aX=((dS sig (ds.map (·.2)))[aX - aX]?).bind lQ:=alE sig ds;have Y9:(oz sig ds).used aX=true:=alF sig ds;unfold L9 at k;rw[Gw,C5] at k Z;generalize jY:dS sig (z.map (·.ps))=fl at k U L Z;have Y:=j.ok;rw[jY] at Y;split at k
 case h_2=>cases k
 rename_i y hy;obtain⟨x,rfl⟩:∃x,fl=[x]:=by
  match fl,hy with
  |[x],_=>exact⟨x,rfl⟩
 obtain⟨m,pc⟩:=x;obtain⟨sz,X,cap,px,Ww,fc,n9,r5⟩:=(Y (m,pc) (by simp)).eG;dsimp only at Ww r5;subst Ww;have Ds:(oz sig ds).h aX=some (.row false m sz (px.map fun e=>e.map PC.er)):=by
  rw[Z,zaZ];simp[lQ,PC.dW]
 have fz:∀{σ:St} {a:Act} {w':World} {G:Gh},σ.h aX=(oz sig ds).h aX->σ.Ew ms=some (lo,len)->R w.heap.size (rQ [(m,.list sz X cap px)]) w fn.ntmps σ a w' G->a.defers=[]/\∃v,(results fn a.tmps).run P w'=.ok v w'/\
   ∃(K:Mode) (D t:Nat) (C:Option Addr) (xs:List (List PC)) (v':Value),[(m,PC.list sz X cap px)]=[(K,.list D C t xs)]/\(Ending.returned v)=.returned v'/\xs≠[]/\
   (∃(b o:Nat) (I:Option Addr),C=some (ad b o)/\v'=.slice I len (t - lo)/\lo+len<=t/\((lo<t\/lo=0)->I=some (ad b (o+lo*D))))/\
   Fr w.heap.size (xU [(K,.list D C t xs)]) w w'/\∃q:PC,q.er=(PC.list D C t xs).er/\qx w' K (.list D C t xs) q:=by
  intro σ a w' G s hx r;rw[Ds] at s;unfold St.Ew at hx;split at hx
  ·rename_i n F Lt HS e1;split at hx
   ·rename_i hn;subst hn;rw[s] at hx;split at hx
    ·rename_i gr m0 rr e0 es0 V;split at hx
     case isFalse=>cases hx
     rename_i Q;injection hx with hx;injection hx with j4 eA;subst j4 eA;injection V with V;injection V with _ _ oY hY;have S:px≠[]:=by rintro rfl;cases hY
     have gp:=L (m,.list sz X cap px) (by simp);rcases gp.cases with H|⟨_,jM,b,o,rfl⟩
     ·exact absurd H S
     have e2:vq σ 0 ([(m,PC.list sz (some (ad b o)) cap px)].map fun x=>(x.1,x.2.er))=some [.list sz (px.map fun e=>e.map PC.er)]:=by
      simp only[BY,zbG,vq,Bh,PC.dW,zbH,s];rw[ak ⟨trivial,trivial,trivial,r5,trivial⟩]
     obtain⟨us,u1,u2,_,u3⟩:=Mc r hr e1;obtain⟨v,rfl⟩:∃v,us=[v]:=by
      match us,u2 with
      |[v],_=>exact⟨v,rfl⟩
     have E:=(u3 0 _ v rfl rfl).gj (by simp);have iS:jb (G.g aX) F Lt HS v:=E.1 (by rw[s];simp);have W:F=sz:=Q.trans oY.symm;have oV:=ahX (m,PC.list sz (some (ad b o)) cap px);obtain⟨p1,J,O,p4,p6,_⟩:=r.pi _ _ _ oV s;rw[vr S] at p1 J O p4;dsimp only at p1 J O p4;obtain⟨q,oq,k1,k2,k3,_⟩:=Fz Y L r e2 (i:=0) rfl;refine⟨r.defers,_,adf fn a.tmps u1,m,sz,cap,some (ad b o),px,v,rfl,rfl,S,?_,⟨r.fr.os,r.fr.tape,r.fr.output,r.fr.size,r.fr.block,r.fr.kD⟩,q,?_,k3⟩
     ·rcases iS with⟨H,_⟩|⟨_,I,h1,h2,h3⟩
      ·rw[p1] at H;cases H
      ·rw[J,O,p4] at*
       subst W;exact⟨b,o,I,rfl,h1,h2,h3⟩
     ·rw[k2];simp only[List.getElem?_cons_zero,zcg] at k1;rw[<-k1,PC.dW]
    ·cases hx
   ·cases hx
  ·cases hx
 split at k
 ·rename_i σ e;have s:=(Bn u KK e).h aX Y9;exact lW hT hm u hc e U fun a w' G r=>fz s k r
 ·rename_i σ e;have s:=(Bn u KK e).h aX Y9;exact lW hT hm u hc e U fun a w' G r=>fz s k r
 ·cases k
end
def St.win (σ:St) (i lo len:Nat):St:=σ.put (some i) (.one (.sl aX 1 lo len))
def Mb (T:aQ) (mc:kJ) (aC:List bE) (i lo len:Nat) (ds:List Dv):Option (List Dv×List C):=
 match dZ T mc ((oz (ld i) ds).win i lo len) with
 |some (.fR σ)=>σ.vu aC (dS (ld i) (ds.map (·.2)))
 |some (.ret σ)=>σ.vu aC (dS (ld i) (ds.map (·.2)))
 |_=>none
theorem WT {α:Type}:∀{i:Nat} {xss:List (List α)} {x:α},xss[i]? =some [x]->dS (ld i) xss=[(.aN,x)]
 |0,[],_,h=>by cases h
 |0,xs::xss,x,h=>by injection h with h;subst h;show fg [some .aN] [x]++dS [] xss=_;rfl
 |i+1,[],_,h=>by cases h
 |i+1,xs::xss,x,h=>by show fg [] xs++dS (ld i) xss=_;rw[WT (i:=i) (xss:=xss) (x:=x) h];rfl
section
variable {B:Nat} {E:Ex} {w0 w w':World} {G G':Gh} {N:Nat} {h h':Nat->Option ar} {used:Nat->Bool}
variable {P:Program} {T:aQ} {a:Act} {σ σ':St} {Q:Exit->Act->World->Prop}
theorem agq {vals:List Value} {v:Value} {i N:Nat} (a:i<vals.length): ({tmps:=(vals.set i v).toArray++zbP (N - (vals.set i v).toArray.size) undef,defers:=[]}:Act)=({tmps:=vals.toArray++zbP (N - vals.toArray.size) undef,defers:=[]}:Act).put (some i) v:=by simp only[Act.put];congr 1;apply Array.ext';simp[List.set_append,a]
theorem as3 (hT:m4 P T) (hm:P.follows .mixedOrders=true) {f:FuncId} {fn:Func} {c:Code} {S:kJ} {ms:List bE} {i:Nat} {M:List Dv->Option (List Dv×List C)} (hf:P.funcs[f]? =some fn) (hb:fn.body=some c)
  (hc:jG P fn.ntmps c S=true) (hr:nT P fn.results.toList ms=true)
  (hM:∀lo len ds H B,M (dI lo::dI (lo+len)::ds)=some (H,B)->ds.length<=fn.ntmps/\Mb T S ms i lo len ds=some (H,B)):zO P f i M:=by
 intro lo len ds H B ys kN YH w vals u s b0 o0 JI n0 a' Rf cf gG Qf;obtain⟨hN,y⟩:=hM lo len ds H B kN;refine calls_of_wp hf hb ?_;have X:i<ds.length:=(IN.1 YH).1;have Dw:i<vals.length:=by rw[s.l1];exact X
 have fW:∀p∈u,∀pc∈p.ps,Good w pc:=by
  intro p E pc cg;obtain⟨i,t,rfl⟩:=zbr E;have hd:ds[i]? =some (ds[i]'(by rw[<-s.l2];exact t)):=co _;have hv:vals[i]? =some (vals[i]'(by rw[s.l1,<-s.l2];exact t)):=co _;exact(s.at_ i _ _ _ hd hv (co t)).2.1 pc cg
 have Y:u[i]? =some (u[i]'(by rw[s.l2];exact X)):=co _;obtain⟨F,z,j⟩:=s.at_ i _ _ _ YH Rf Y;generalize u[i]'(by rw[s.l2];exact X)=p at Y F z j;obtain⟨pk,L,pb,po⟩:=p;injection F with ZY J;simp only at ZY J z j;subst ZY;simp only at j;obtain⟨pc,rfl⟩:∃pc,L=[pc]:=by
  have hl:=congrArg zbQ j;rw[zas] at hl;match L,hl with
  |[pc],_=>exact⟨pc,rfl⟩
 injection j with j _;injection J with J _;obtain⟨ql,Cw,A,I,rfl⟩:∃ql Cw A I,pc=.list ql Cw A I:=by
  cases pc with
  |int k n=>cases j
  |bool b=>cases j
  |list sz a cap xs=>exact⟨_,_,_,_,rfl⟩
 rw[PC.dW] at J;injection J with z1 z2;subst z1;rw[PC.val] at j;injection j with z3 z4 z5;subst z3 z4 z5;have gp:=z _ (za0.2 rfl);have aJ:I≠[]:=by rintro rfl;simp at cf
 have Dr:dS (ld i) (u.map (·.ps))=[(.aN,PC.list 1 (some (ad b0 o0)) A I)]:=WT (by rw[zab,Y];rfl);have jM:I.length<=A:=by
  rcases gp.cases with h0|⟨_,h1,_⟩
  ·exact absurd h0 aJ
  ·exact h1
 have r1:=R.Hm (N:=fn.ntmps) s hN;have U:=r1.put (d:=some i) (x:=.one (.sl aX 1 lo len)) (v:=.slice a' len (A - lo)) (RA.gh rfl (by
   intro _;have O:(mI w (dS (ld i) (u.map (·.ps)))).g aX=⟨false,b0,o0,A,I,none⟩:=by
    rw[Dr];simp only[mI,zaZ];exact vr aJ
   show jb _ 1 lo len _;rw[O];exact .inr ⟨rfl,a',rfl,by simp only;omega,Qf⟩)) (fun m hm=>zau (Nat.le_of_eq (show aX=m from(show m=aX from hm).symm))) (fun n hn=>by
   injection hn with hn;subst hn;omega)
 rw[<-agq Dw] at U;have O:∀x∈dS (ld i) (u.map (·.ps)),Good w x.2:=by
  intro x hx;obtain⟨l,hl,o6⟩:=F8 hx;obtain⟨p,E,rfl⟩:=zbF.1 hl;exact fW p E _ o6
 have Gw:ds.map (·.2)=(u.map (·.ps)).map fun l=>l.map PC.er:=by
  apply zae;intro i;simp only[zab];cases hd:ds[i]? with
  |none=>
   have:ds.length<=i:=za2.1 hd;rw[IS (by rw[s.l2];exact this)];rfl
  |some d=>
   have t:=(IN.1 hd).1;have hv:vals[i]? =some (vals[i]'(by rw[s.l1];exact t)):=co _;have E:u[i]? =some (u[i]'(by rw[s.l2];exact t)):=co _;have:=(s.at_ i d _ _ hd hv E).1;rw[E];simp only[Pd];rw[this]
 unfold Mb at y;rw[Gw,C5] at y;unfold Jt;generalize jY:dS (ld i) (u.map (·.ps))=fl at y U O;have fO:=s.ok;rw[jY] at fO;have fz:∀{σ:St} {a:Act} {w':World} {G:Gh},σ.vu ms (fl.map fun x=>(x.1,x.2.er))=some (H,B)->R w.heap.size (rQ fl) w fn.ntmps σ a w' G->a.defers=[]/\∃v,(results fn a.tmps).run P w'=.ok v w'/\
   ∃D:List (K×List PC),D.map (fun p=>(p.1,p.2.map PC.er))=H/\(Ending.returned v)=.returned (vw D)/\(∀p∈D,p.1≠ .ptr/\(p.1=.one->p.2.length=1))/\
   xH w' w.heap.size (D.flatMap (·.2))/\Fr w.heap.size (xU fl) w w'/\
   ∃W:List PC,W.map PC.er=B/\W.length=fl.length/\∀(i:Nat) (x:Mode×PC) (q:PC),fl[i]? =some x->W[i]? =some q->qx w' x.1 x.2 q:=by
  intro σ a w' G hx r;unfold St.vu at hx;split at hx
  ·rename_i pz SZ e1 e2;injection hx with hx;injection hx with j4 eA;subst j4 eA;have hE:∀b,(rQ fl) b->∃n V m sz xs,aX<=n/\σ.h n=some (.row V m sz xs)/\m≠ .aM/\n4 G n b/\(m=.aN->¬bc b (G.g n).px):=by
    rintro b ⟨x,tH,yi⟩;obtain⟨i,t⟩:=zbl tH;obtain⟨q,o,_,_,_,V,sz,xs,F,z,j,k4⟩:=Fz fO O r e2 t;exact⟨aX+i,V,x.1,sz,xs,Nat.le_add_right _ _,F,k4,z b yi,fun hm=>j hm b⟩
   obtain⟨D,p1,p2,p3,p4⟩:=Tl (r.ky hE) hr e1;obtain⟨ol,_⟩:=LO e2;have Z:∀i:Fin fl.length,∃q,SZ[i.1]? =some (PC.er q)/\qx w' (fl[i.1]).1 (fl[i.1]).2 q:=by
    intro i;obtain⟨q,o,F,z,j,_⟩:=Fz fO O r e2 (co i.2);exact⟨q,by rw[F,z],j⟩
   refine⟨r.defers,_,p2,D,p1,rfl,p3,p4,⟨r.fr.os,r.fr.tape,r.fr.output,r.fr.size,r.fr.block,r.fr.kD⟩,List.ofFn fun i=>Classical.choose (Z i),?_,by simp,fun i x q t Q=>?_⟩
   ·apply zae;intro i;simp only[zab];by_cases t:i<fl.length
    ·rw[zbx,dif_pos t];exact(zbc (Z ⟨i,t⟩)).1.symm
    ·rw[IS (by simp;omega),IS (by rw[ol];simp;omega)];rfl
   ·obtain⟨hl,e⟩:=IN.1 t;rw[zbx,dif_pos hl] at Q;injection Q with Q;subst Q;subst e;exact(zbc (Z ⟨i,hl⟩)).2
  ·cases hx
 split at y
 ·rename_i σ e;exact lW hT hm S hc e U fun a w' G r=>fz y r
 ·rename_i σ e;exact lW hT hm S hc e U fun a w' G r=>fz y r
 ·cases y
end
def IA (k:K) (ts:List Ty) (x:Ty.DL ts):SV:=
 match k with
 |.one=>match Ty.cells ts x with
  |[c]=>.one c
  |_=>.one .bC
 |.agg=>match zak 50 ts.length with
  |true=>.arr ts x
  |false=>.agg (Ty.cells ts x)
 |.ptr=>.one (.di ts x 0)
theorem adi (k:K) (ts:List Ty) (x:Ty.DL ts):(IA k ts x).er=zP (k,Ty.aA ts x):=by
 cases k with
 |one=>
  match ts,x with
  |[],x=>rfl
  |[t],x=>rfl
  |t::u::[],x=>rfl
  |t::u::v::ts,x=>rfl
 |agg=>
  simp only[IA];split
  ·rfl
  ·simp only[SV.er,zP,Ty.nf]
 |ptr=>rfl
def IF:Nat->(as:aH)->aZ as.aY->(Nat->SV)
 |_,[],_=>fun _=>.one .bC
 |k,[a],x=>aI (fun _=>.one .bC) k (IA a.1 a.2 x)
 |k,a::b::as,x=>aI (IF (k+1) (b::as) x.2) k (IA a.1 a.2 x.1)
theorem aeK:∀(k:Nat) (as:aH) (x:aZ as.aY),tn (IF k as x)=ve k (dV as x)
 |k,[],x=>rfl
 |k,[a],x=>by have e:(IA a.1 a.2 x).er=zP (a.1,Ty.aA a.2 x):=adi a.1 a.2 x;simp only[IF,dV,ve,C2];rw[e];rfl
 |k,a::b::as,x=>by have c:=aeK (k+1) (b::as) x.2;simp only[IF,dV,C2,adi,c];rw[ve]
def TP (as:aH) (x:aZ as.aY):ai:={env:=IF 0 as x,h:=fun _=>none,used:=fun n=>zak aX n}
theorem arQ (as:aH) (x:aZ as.aY):(TP as x).er=Ho (dV as x):=by simp only[TP,ai.er,Ho,aeK];rfl
section
variable {ρ:Type}
def xm (σ:ai):List bE->(List SV->Option ρ)->Option ρ
 |[],k=>k []
 |.tmp t::ms,k=>xm σ ms fun vs=>k (σ.env t::vs)
 |.cell t sz ag::ms,k=>match σ.env t with
  |.one p=>MK σ.h p sz fun cs=>xm σ ms fun vs=>k (E5 ag cs::vs)
  |_=>none
theorem EN {σ:ai}:∀{ms:List bE} {k:List SV->Option ρ} {r:ρ},xm σ ms k=some r->∃vs,σ.er.rj ms=some (vs.map SV.er)/\k vs=some r
 |[],k,r,h=>⟨[],rfl,h⟩
 |.tmp t::ms,k,r,h=>by simp only[xm] at h;obtain⟨vs,b,a⟩:=EN h;exact⟨_,by simp only[St.rj,b];rfl,a⟩
 |.cell t sz ag::ms,k,r,h=>by simp only[xm] at h;split at h;rename_i p c;obtain⟨cs,b,a⟩:=aeQ h;obtain⟨vs,d,f⟩:=EN a;have g:σ.er.env t=.one p.er:=(by show(σ.env t).er=_;rw[c];rfl);have e:loadAt σ.er.h p.er sz=some (cs.map SC.er):=b;exact⟨_,by simp only[St.rj,g,e,d,BY,I3],f⟩;cases h
def T8 (h:Nat->Option SB) (c:SC) (k:(t:Ty)->t.D->List Nat->Option ρ):Option ρ:=
 match c with
 |.v t x=>eM t.eX (k t x [])
 |.nil ts=>match ts with
  |[]=>none
  |t::us=>k (.list (t::us)) ([]:List (Ty.DL (t::us))) []
 |.sl n sz lo len=>match h n with
  |some (.row true m ts xs)=>cE ts.length sz (eM m.own (cE lo 0 ((d9 xs len).ae fun ys=>k (.list ts) ys [n])))
  |_=>none
 |_=>none
theorem ar6 {h:Nat->Option SB} {c:SC} {k:(t:Ty)->t.D->List Nat->Option ρ} {r:ρ} (hx:T8 h c k=some r): ∃(t:Ty) (x:t.D) (ns:List Nat),lP (dO h) c.er=some (t.er x,ns)/\k t x ns=some r:=by unfold T8 at hx;split at hx;rename_i t x;have d:=(bT hx).1;replace hx:=(bT hx).2;exact⟨t,x,[],by simp only[SC.er,lP,Ty.y8,d,if_true],hx⟩;split at hx;cases hx;rename_i t us;exact⟨.list (t::us),[],[],by simp[SC.er,lP,Ty.er],hx⟩;rename_i n sz lo len;split at hx;rename_i m ts xs hn;have a:=(aS hx).1;replace hx:=(aS hx).2;subst a;have hm:=(bT hx).1;replace hx:=(bT hx).2;have a:=(aS hx).1;replace hx:=(aS hx).2;subst a;rw[eC] at hx;obtain⟨ys,g,hx⟩:=hx;obtain⟨e,b⟩:=afr g;refine⟨.list ts,ys,[n],?_,hx⟩;have f:m≠ .aM:=(by rintro rfl;cases hm);simp only[SC.er,lP,dO,hn,Pd,SB.er,zas,e,b,ne_eq,f,not_false_eq_true,and_self,if_true,Ty.er];cases hx;cases hx
def M1 (h:Nat->Option SB):List SC->(List TD->List Nat->Option ρ)->Option ρ
 |[],k=>k [] []
 |c::cs,k=>T8 h c fun t x ns=>M1 h cs fun l lN=>k (⟨t,x⟩::l) (ns++lN)
theorem afa {h:Nat->Option SB}:∀{cs:List SC} {k:List TD->List Nat->Option ρ} {r:ρ},M1 h cs k=some r-> ∃l ns,sI (dO h) (cs.map SC.er)=some (dz l,ns)/\k l ns=some r
 |[],k,r,hx=>⟨[],[],rfl,hx⟩
 |c::cs,k,r,hx=>by simp only[M1] at hx;obtain⟨t,x,ns,f,d⟩:=ar6 hx;obtain⟨l,a,b,e⟩:=afa d;exact⟨⟨t,x⟩::l,ns++a,by simp[sI,f,b,dz],e⟩
def kOf:Bool->K
 |true=>.agg
 |false=>.one
def EO (h:Nat->Option SB):List SV->(List cC->List Nat->Option ρ)->Option ρ
 |[],k=>k [] []
 |v::vs,k=>match v.cells? with
  |some (ag,cs)=>M1 h cs fun l ns=>EO h vs fun ds lN=>k ((kOf ag,l)::ds) (ns++lN)
  |none=>none
theorem MY {h:Nat->Option SB}:∀{vs:List SV} {k:List cC->List Nat->Option ρ} {r:ρ},EO h vs k=some r-> ∃ds ns,pq (dO h) (vs.map SV.er)=some (ds.map cC.er,ns)/\k ds ns=some r
 |[],k,r,hx=>⟨[],[],rfl,hx⟩
 |v::vs,k,r,hx=>by simp only[EO] at hx;split at hx;rename_i ag cs a;obtain⟨l,ns,e,c⟩:=afa hx;obtain⟨ds,lN,b,d⟩:=MY c;refine⟨_,_,?_,d⟩;simp only[BY,pq,SV.nf a,e,b];cases ag<;>rfl;cases hx
end
def Eh:List Nat->Bool
 |[]=>true
 |n::l=> !(l.contains n)&&Eh l
theorem LJ:∀{l:List Nat},Eh l=true->l.Nodup
 |[],_=>List.nodup_nil
 |n::l,h=>by simp only[Eh,By,zbB] at h;rw[List.nodup_cons];refine⟨fun hm=>?_,LJ h.2⟩;have:l.contains n=true:=(by simpa using hm);rw[this] at h;cases h.1
def IU (σ:ai) (ms:List bE) (aC:aH):Option (aZ aC.aY):=
 xm σ ms fun vs=>EO σ.h vs fun ds ns=>eM (Eh ns) (oF aC ds)
theorem T9 {σ:ai} {ms:List bE} {aC:aH} {y:aZ aC.aY} (h:IU σ ms aC=some y):σ.er.sH ms=some (dV aC y):=by unfold IU at h;obtain⟨vs,f,e⟩:=EN h;obtain⟨ds,ns,c,a⟩:=MY e;have b:=(bT a).1;replace h6:=(bT a).2;have d:pq σ.er.h (vs.map SV.er)=some (ds.map cC.er,ns):=c;simp only[St.sH,f,d,ak (LJ b),sA h6]
def MZ (σ:ai) (ms:List bE) (aC:aH):Option (aZ aC.aY):=
 match ms with
 |.cell t sz true::SI=>match σ.env t with
  |.one (.ptr n kk z off)=>match σ.h n with
   |some (.eP us x)=>cE kk 0 (cE off 0 (cE sz us.length (eM (Ty.e9 us) (xm σ SI fun vs=>EO σ.h vs fun ds ns=>eM (Eh ns) (LA aC us x ds)))))
   |_=>IU σ ms aC
  |_=>IU σ ms aC
 |_=>IU σ ms aC
theorem ac7 (h:Nat->Option ar):∀{l:List C},Am.e9 l=true->sI h (l.map .c)=some (l,[])
 |[],_=>rfl
 |c::l,hs=>by simp only[Am.e9,zaB,By] at hs;have a:=ac7 h (l:=l) hs.2;simp only[BY,sI,lP,hs.1,if_true,a,zbd]
theorem ae9 {σ:ai} {ms:List bE} {aC:aH} {y:aZ aC.aY} (h:MZ σ ms aC=some y):σ.er.sH ms=some (dV aC y):=by unfold MZ at h;split at h;rename_i t sz l;split at h;rename_i n kk z off k;split at h;rename_i us x hn;have a:=(aS h).1;replace h:=(aS h).2;subst a;have a:=(aS h).1;replace h:=(aS h).2;subst a;have a:=(aS h).1;replace h:=(aS h).2;subst a;have d:=(bT h).1;replace h:=(bT h).2;obtain⟨vs,i,m⟩:=EN h;obtain⟨ds,ns,f,b⟩:=MY m;have e:=(bT b).1;replace h6:=(bT b).2;have g:pq σ.er.h (vs.map SV.er)=some (ds.map cC.er,ns):=f;have o:σ.er.env t=.one (.ptr n 0 z 0):=(by show(σ.env t).er=_;rw[k];rfl);have j:sub ((Ty.aA us x).map ah.c) 0 us.length=some ((Ty.aA us x).map ah.c):=(by unfold sub;rw[ak (by simp[Ty.pP]),List.drop_zero,List.take_of_length_le (by simp[Ty.pP])]);have hl:loadAt σ.er.h (.ptr n 0 z 0) us.length=some ((Ty.aA us x).map .c):=(by simp only[loadAt,wa hn,SB.er,if_true,j]);have hr:σ.er.rj (.cell t us.length true::l)=some (.agg ((Ty.aA us x).map .c)::vs.map SV.er):=(by simp only[St.rj,o,hl,i];rfl);have hd:pq σ.er.h (.agg ((Ty.aA us x).map .c)::vs.map SV.er)=some ((K.agg,Ty.aA us x)::ds.map cC.er,ns):=(by simp only[pq,ao.cells?,ac7 σ.er.h (show Am.e9 (Ty.aA us x)=true by rw[Ty.Bo];exact d),g,if_true,zbd]);simp only[St.sH,hr,hd,ak (LJ e),aaN h6];exact T9 h;exact T9 h;exact T9 h
def dq (N:Nat) (T:List aw) (sc:bB) (ms:List bE) (args aC:aH) (x:aZ args.aY):Option (aZ aC.aY):=
 mA N T sc (TP args x) (fun σ=>MZ σ ms aC) (fun _ _=>none) (fun σ=>MZ σ ms aC)
theorem aq4 {T:List aw} {b:bB} {ms:List bE} {args aC:aH} {x:aZ args.aY} {y:aZ aC.aY} (h:dq aK T b ms args aC x=some y): L7 (cV T) b.er ms (dV args x)=some (dV aC y):=by obtain⟨o,c,a⟩:=sM b h;rw[arQ] at c;unfold L7;rw[c];cases o with|fR τ=>obtain⟨d,rfl,a⟩:=a;exact ae9 a|ret τ=>obtain⟨d,rfl,a⟩:=a;exact ae9 a|ext i τ=>obtain⟨d,rfl,a⟩:=a;cases a
theorem F3:∀(as:aH) (x:aZ as.aY),(dV as x).length=as.length
 |[],_=>rfl
 |[a],_=>rfl
 |a::b::as,x=>by simp only[dV,OF,F3 (b::as) x.2]
def rn:Nat->List (Option Mode)->List TD->List SC
 |c,some _::fs,⟨.list ts,xs⟩::l=>.sl (aX+c) ts.length 0 (af (α:=Ty.DL ts) xs)::rn (c+1) fs l
 |c,some _::fs,⟨.int _,_⟩::l=>.bC::rn (c+1) fs l
 |c,some _::fs,⟨.bool,_⟩::l=>.bC::rn (c+1) fs l
 |c,none::fs,x::l=>.v x.1 x.2::rn c fs l
 |c,[],l=>l.map fun x=>.v x.1 x.2
 |c,_::_,[]=>[]
theorem Iy:∀(c:Nat) (a:List (Option Mode)) (l:List TD),(rn c a l).map SC.er=iM c a (dz l)
 |c,some m::a,⟨.list ts,xs⟩::l=>by simp only[rn,dz,BY,Ty.er,iM,SC.er];have:=Iy (c+1) a l;simp only[dz] at this;rw[this];exact congrArg (fun q=>ah.sl (aX+c) ts.length 0 q::_) (zas (Ty.aA ts)).symm
 |c,some m::a,⟨.int k,x⟩::l=>by simp only[rn,dz,BY,Ty.er,iM,SC.er];exact congrArg _ (Iy (c+1) a l)
 |c,some m::a,⟨.bool,x⟩::l=>by simp only[rn,dz,BY,Ty.er,iM,SC.er];exact congrArg _ (Iy (c+1) a l)
 |c,none::a,⟨t,x⟩::l=>by simp only[rn,dz,BY,iM,SC.er];exact congrArg _ (Iy c a l)
 |c,[],l=>by cases l<;>simp[rn,dz,iM,SC.er]
 |c,some m::a,[]=>rfl
 |c,none::a,[]=>rfl
def Tt (c:Nat) (s:List (Option Mode)) (ts:List Ty) (x:Ty.DL ts):SC:=
 match s with
 |[]=>.di ts x 0
 |_::_=>match(Ty.fT ts x).getLast? with
  |some ⟨.list us,l⟩=>.cO ts x 0 (ts.length - 1) (aX+c) us.length (af l)
  |_=>.bC
theorem arn (c:Nat) (s:List (Option Mode)) (ts:List Ty) (x:Ty.DL ts):(Tt c s ts x).er=FA c s (Ty.aA ts x):=by cases s with|nil=>rfl|cons f fs=>have a:Ty.aA ts x=(Ty.fT ts x).map fun y=>y.1.er y.2:=(Ty.pN ts x).symm;have b:(Ty.aA ts x).length=ts.length:=Ty.pP ts x;simp only[Tt,FA];rw[b,a,List.getLast?_map];cases hl:(Ty.fT ts x).getLast? with|none=>rfl|some y=>obtain⟨t,l⟩:=y;cases t with|list us=>simp only[Pd,Ty.er,SC.er,a,af];exact congrArg (ah.cO _ 0 (ts.length - 1) (aX+c) us.length) (zas (as:=(l:List (Ty.DL us))) (Ty.aA us)).symm|int k=>rfl|bool=>rfl
def Iz (c:Nat) (s:List (Option Mode)) (d:K×List Ty) (x:Ty.DL d.2):SV:=
 match d.1 with
 |.one=>match rn c s (Ty.fT d.2 x) with
  |[y]=>.one y
  |_=>.one .bC
 |.agg=>.agg (rn c s (Ty.fT d.2 x))
 |.ptr=>.one (Tt c s d.2 x)
theorem adh (c:Nat) (s:List (Option Mode)) (d:K×List Ty) (x:Ty.DL d.2):(Iz c s d x).er=qz c s (d.1,Ty.aA d.2 x):=by
 obtain⟨k,ts⟩:=d;have h:=Iy c s (Ty.fT ts x);rw[Ty.pN] at h;cases k with
 |one=>
  simp only[Iz,qz,<-h];generalize rn c s (Ty.fT ts x)=l;match l with
  |[]=>rfl
  |[y]=>rfl
  |_::_::_=>rfl
 |agg=>simp only[Iz,qz,<-h,SV.er]
 |ptr=>exact congrArg ao.one (arn c s ts x)
def IG:Nat->Nat->bP->(as:aH)->aZ as.aY->(Nat->SV)
 |_,_,_,[],_=>fun _=>.one .bC
 |k,c,sig,[a],x=>aI (fun _=>.one .bC) k (Iz c sig.hd a x)
 |k,c,sig,a::b::as,x=>aI (IG (k+1) (c+(fg sig.hd (Ty.fT a.2 x.1)).length) sig.tl (b::as) x.2) k (Iz c sig.hd a x.1)
theorem PN {α β:Type}:∀(s:List (Option Mode)) (l:List α) (a:List β),l.length=a.length->(fg s l).length=(fg s a).length
 |some m::fs,x::xs,y::ys,h=>by simp only[fg,OF,PN fs xs ys (by simpa using h)]
 |none::fs,x::xs,y::ys,h=>by simp only[fg];exact PN fs xs ys (by simpa using h)
 |[],l,a,h=>by cases l<;>cases a<;>rfl
 |some m::fs,[],[],h=>rfl
 |none::fs,[],[],h=>rfl
 |_::_,[],_::_,h=>by simp at h
 |_::_,_::_,[],h=>by simp at h
theorem Px (ts:List Ty) (x:Ty.DL ts):(Ty.fT ts x).length=(Ty.aA ts x).length:=by rw[<-Ty.pN,dz,zas]
theorem ZF (k c:Nat) (sig:bP) (d:Dv) (ds:List Dv):nB k c sig (d::ds)=aI (nB (k+1) (c+(fg sig.hd d.2).length) sig.tl ds) k (qz c sig.hd d):=by cases sig with|nil=>have:(fg (bP.hd []) d.2).length=0:=rfl;rw[this];simp only[nB,zbH,bP.tl,bP.hd]|cons s sig=>rfl
theorem aeJ:∀(k c:Nat) (sig:bP) (as:aH) (x:aZ as.aY),tn (IG k c sig as x)=nB k c sig (dV as x)
 |k,c,sig,[],x=>by cases sig<;>rfl
 |k,c,sig,[a],x=>by simp only[IG,dV,C2];have h:=adh c sig.hd a x;rw[ZF];have e:nB (k+1) (c+(fg sig.hd (Ty.aA a.2 x)).length) sig.tl []=C0:=(by simp only[nB]);rw[e];exact congrArg (fun v=>aI (tn fun _=>SV.one SC.bC) k v) h
 |k,c,sig,a::b::as,x=>by have d:=aeJ (k+1) (c+(fg sig.hd (Ty.fT a.2 x.1)).length) sig.tl (b::as) x.2;simp only[IG,dV,C2,adh,d,ZF (ds:=dV (b::as) x.2)];rw[PN sig.hd (Ty.fT a.2 x.1) (Ty.aA a.2 x.1) (Px _ _)]
def vz (sig:bP) (as:aH) (x:aZ as.aY):List (Mode×TD):=dS sig ((jf as x).map (·.2))
theorem EC (sig:bP) (as:aH) (x:aZ as.aY):(vz sig as x).map (fun p=>(p.1,p.2.1.er p.2.2))=dS sig ((dV as x).map (·.2)):=by unfold vz;rw[<-th,<-C5 (fun p:TD=>p.1.er p.2)];simp only[zal];rfl
def Ua:Mode×TD->Option SB
 |(m,⟨.list ts,xs⟩)=>some (.row false m ts xs)
 |_=>none
theorem ar7 (p:Mode×TD):(Ua p).map SB.er=lQ (p.1,p.2.1.er p.2.2):=by obtain⟨m,t,x⟩:=p;cases t<;>rfl
def ER:List (Mode×TD)->Nat->Option SB
 |[],_=>none
 |p::_,0=>Ua p
 |_::l,n+1=>ER l n
theorem afc:∀(l:List (Mode×TD)) (n:Nat),ER l n=(l[n]?).bind Ua
 |[],n=>by simp[ER]
 |p::l,0=>by simp[ER]
 |p::l,n+1=>by simp[ER,afc l n]
def aeH (fl:List (Mode×TD)):Nat->Option SB:=fun n=>match zak aX n with
 |true=>ER fl (Nat.sub n aX)
 |false=>none
def IH (sig:bP) (as:aH) (x:aZ as.aY):ai:={env:=IG 0 0 sig as x,h:=aeH (vz sig as x),used:=fun n=>zak aX n}
theorem TQ (sig:bP) (as:aH) (x:aZ as.aY):(IH sig as x).er=oz sig (dV as x):=by simp only[IH,ai.er,oz,aeJ];congr 1;funext n;simp only[dO,aeH];cases hb:zak aX n with|true=>rw[ak (zaL hb),<-EC,afc];simp only[zab];(cases (vz sig as x)[n - aX]? with|none=>simp|some p=>simp[ar7])|false=>rw[aq (fun h=>by rw[zau h] at hb;cases hb)];rfl
def ai.ky (σ:ai):ai:={σ with h:=fun n=>match zak aX n with|true=>none|false=>σ.h n}
theorem ai.ao4 (σ:ai):σ.ky.er=σ.er.ky:=by simp only[ai.ky,ai.er,St.ky];congr 1;funext n;simp only[dO];cases hb:zak aX n with|true=>rw[ak (zaL hb)];rfl|false=>rw[aq (fun h=>by rw[zau h] at hb;cases hb)]
section
variable {ρ:Type}
def TX (σ:ai) (q:Nat) (p:Mode×TD) (k:TD->Option ρ):Option ρ:=
 match p with
 |(m,⟨.list ts,xs⟩)=>match σ.h (aX+q) with
  |some (.row _ m' us ys)=>eM (Mode.beq m' m) (eM (Ty.oN us ts) (eM (Uv m us) ((mz (af ys) (af (α:=Ty.DL ts) xs)).ae fun _=>k ⟨.list us,ys⟩)))
  |_=>none
 |_=>none
theorem ZP (t:Ty) (x:t.D):(t.er x).si= !t.eX:=by cases t<;>rfl
theorem ZO:∀(ts:List Ty) (x:Ty.DL ts),(Ty.aA ts x).map C.si=ts.map fun t=> !t.eX
 |[],_=>rfl
 |[t],x=>congrArg (fun b=>[b]) (ZP t x)
 |t::u::ts,x=>by have:=ZO (u::ts) x.2;simp only[BY] at this;simp only[Ty.aA,BY,ZP,this]
theorem ZQ (ts:List Ty) (xs:List (Ty.DL ts)):(zbk (Ty.aA ts) xs).map (fun e=>e.map C.si)=Pe xs.length (ts.map fun t=> !t.eX):=by induction xs with|nil=>rfl|cons x xs a=>simp only[BY,ZO,a,OF,zbs]
theorem arY {σ:ai} {q:Nat} {p:Mode×TD} {k:TD->Option ρ} {r:ρ} (h:TX σ q p k=some r):∃o:TD,Bh σ.er q (p.1,p.2.1.er p.2.2)=some (o.1.er o.2)/\k o=some r:=by unfold TX at h;split at h;rename_i m ts xs;split at h;rename_i f j us ys hn;have a:=(bT h).1;replace h:=(bT h).2;have c:=(bT h).1;replace h:=(bT h).2;have g:=(bT h).1;replace h:=(bT h).2;rw[eC] at h;obtain⟨_,b,h⟩:=h;have hl:af ys=af (α:=Ty.DL ts) xs:=(by unfold mz at b;split at b;assumption;cases b);have a:=Mode.beq_eq a;have c:=Ty.m8 c;subst a c;refine⟨_,?_,h⟩;have l:σ.er.h (aX+q)=some (.row f j us.length (zbk (Ty.aA us) ys)):=(by simp[ai.er,dO,hn,SB.er]);have d:zbQ ys=zbQ (α:=Ty.DL us) xs:=hl;have i:(zbk (Ty.aA us) ys).length=(zbk (α:=Ty.DL us) (Ty.aA us) xs).length:=(zas _).trans (d.trans (zas (as:=(xs:List (Ty.DL us))) (Ty.aA us)).symm);have s:(zbk (Ty.aA us) ys).map (fun e=>e.map C.si)=(zbk (α:=Ty.DL us) (Ty.aA us) xs).map (fun e=>e.map C.si):= (ZQ us ys).trans ((congrArg (fun n=>Pe n _) d).trans (ZQ us xs).symm);simp only[Bh,Ty.er,l];rw[ak ⟨trivial,trivial,i,Xc _ _ _ g,s⟩];cases h;cases h
def MS (σ:ai):Nat->List (Mode×TD)->(List TD->Option ρ)->Option ρ
 |_,[],k=>k []
 |q,p::l,k=>TX σ q p fun o=>MS σ (q+1) l fun os=>k (o::os)
theorem aeY {σ:ai}:∀{l:List (Mode×TD)} {q:Nat} {k:List TD->Option ρ} {r:ρ},MS σ q l k=some r->∃os,vq σ.er q (l.map fun p=>(p.1,p.2.1.er p.2.2))=some (dz os)/\k os=some r
 |[],q,k,r,h=>⟨[],rfl,h⟩
 |p::l,q,k,r,h=>by simp only[MS] at h;obtain⟨o,d,b⟩:=arY h;obtain⟨os,a,c⟩:=aeY b;exact⟨o::os,by simp only[BY,vq,d,a,dz],c⟩
end
def EP (σ:ai) (ms:List bE) (fl:List (Mode×TD)) (kk:Nat) (aC:aH):Option (aZ aC.aY):=
 xm σ.ky ms fun vs=>EO σ.ky.h vs fun ds ns=>eM (Eh ns) (cE ds.length kk (MS σ 0 fl fun os=>oF aC (ds++os.map fun o=>(.one,[o]))))
theorem M3 {σ:ai} {ms:List bE} {fl:List (Mode×TD)} {b:Nat} {aC:aH} {y:aZ aC.aY} (h:EP σ ms fl b aC=some y): σ.er.vu ms (fl.map fun p=>(p.1,p.2.1.er p.2.2))=some (zp b (dV aC y)):=by unfold EP at h;obtain⟨vs,i,l⟩:=EN h;obtain⟨ds,ns,f,a⟩:=MY l;have e:=(bT a).1;replace a:=(bT a).2;have j:=(aS a).1;replace a:=(aS a).2;obtain⟨os,d,c⟩:=aeY a;have g:pq σ.ky.er.h (vs.map SV.er)=some (ds.map cC.er,ns):=f;have hr:σ.er.ky.sH ms=some (ds.map cC.er):=(by rw[<-ai.ao4];simp only[St.sH,i,g,ak (LJ e)]);simp only[St.vu,hr,d,<-sA c,IP,<-j];congr 2;rw[List.take_left];rw[List.drop_left];congr 1;clear d c;induction os with|nil=>rfl|cons o os k=>rw[BY,List.flatMap_cons,<-k];rfl
def y5 (N:Nat) (T:List aw) (sc:bB) (ms:List bE) (args:aH) (mu:bP) (aC:aH) (x:aZ args.aY):Option (aZ aC.aY):=
 mA N T sc (IH mu args x) (fun σ=>EP σ ms (vz mu args x) (aC.length - mu.cD) aC) (fun _ _=>none) (fun σ=>EP σ ms (vz mu args x) (aC.length - mu.cD) aC)
theorem aq3 {T:List aw} {b:bB} {ms:List bE} {args:aH} {mu:bP} {aC:aH} {x:aZ args.aY} {y:aZ aC.aY} (h:y5 aK T b ms args mu aC x=some y): L8 (cV T) b.er ms mu (dV args x)=some (zp (aC.length - mu.cD) (dV aC y)):=by obtain⟨o,c,a⟩:=sM b h;rw[TQ] at c;unfold L8;rw[c];cases o with|fR τ=>obtain⟨d,rfl,a⟩:=a;simp only[<-EC];exact M3 a|ret τ=>obtain⟨d,rfl,a⟩:=a;simp only[<-EC];exact M3 a|ext i τ=>obtain⟨d,rfl,a⟩:=a;cases a
def Ix (N:Nat) (T:List aw) (sc:bB) (ms:List bE) (i:Nat) (args aC:aH) (lo hi:Int) (x:aZ args.aY):Option (aZ aC.aY):=
 match vz (ld i) args x with
 |[(_,⟨.list ts,xs⟩)]=>(iY lo hi (af (α:=Ty.DL ts) xs)).ae fun p=>
  mA N T sc ((IH (ld i) args x).put (some i) (.one (.sl aX 1 p.1 p.2))) (fun σ=>EP σ ms (vz (ld i) args x) (aC.length - 1) aC) (fun _ _=>none) (fun σ=>EP σ ms (vz (ld i) args x) (aC.length - 1) aC)
 |_=>none
theorem aq6 {T:List aw} {c:bB} {ms:List bE} {i:Nat} {args aC:aH} {lo len:Nat} {x:aZ args.aY} {y:aZ aC.aY} (h:Ix aK T c ms i args aC (lo:Int) ((lo+len:Nat):Int) x=some y): Mb (cV T) c.er ms i lo len (dV args x)=some (zp (aC.length - 1) (dV aC y)):=by unfold Ix at h;split at h;rw[eC] at h;obtain⟨p,b,h⟩:=h;have g:p=(lo,len):=(by unfold iY at b;split at b;injection b with b;rw[<-b];congr 1;omega;cases b);subst g;obtain⟨o,d,a⟩:=sM c h;rw[ai.ew,TQ] at d;unfold Mb St.win;have e:(SV.one (.sl aX 1 lo len)).er=ao.one (.sl aX 1 lo len):=rfl;rw[e] at d;rw[d];(cases o with|fR τ=>obtain⟨f,rfl,a⟩:=a;simp only[<-EC];exact M3 a|ret τ=>obtain⟨f,rfl,a⟩:=a;simp only[<-EC];exact M3 a|ext i τ=>obtain⟨f,rfl,a⟩:=a;cases a);cases h
section
variable {ρ:Type}
end
def zy:aH:=[(.one,[.int .i64]),(.one,[.int .i64])]
def M4 (σ:ai) (ms:List bE):Option (aZ (aH.aY zy)):=
 xm σ ms fun vs=>match vs with
  |[.one (.sl n sz lo len)]=>cE n aX (match σ.h aX with
   |some (.row _ _ ts xs)=>cE sz ts.length ((dw (0:Int) (af xs)).ae fun _=>some (aU lo,aU (aE lo len)))
   |_=>none)
  |_=>none
theorem afb {σ:ai} {ms:List bE} {y:aZ (aH.aY zy)} (h:M4 σ ms=some y):∃lo len,σ.er.Ew ms=some (lo,len)/\UG (dV zy y)=some (lo,len):=by unfold M4 at h;obtain⟨vs,g,a⟩:=EN h;split at a;rename_i n sz lo len;have d:=(aS a).1;replace a:=(aS a).2;split at a;rename_i c i ts xs f;have l:=(aS a).1;replace a:=(aS a).2;rw[eC] at a;obtain⟨k,b,a⟩:=a;injection a with a;refine⟨lo,len,?_,?_⟩;have j:σ.er.h aX=some (.row c i ts.length (zbk (Ty.aA ts) xs)):=(by simp only[ai.er,dO,f,SB.er,Pd]);unfold St.Ew;rw[g];simp only[BY,zbG,SV.er,SC.er];rw[ak d,j];(cases xs with|nil=>unfold dw af at b;simp at b|cons e es=>simp only[BY];rw[ak l]);subst a;show some (((lo:Nat):Int).toNat,(((lo+len:Nat):Int) - ((lo:Nat):Int)).toNat)=some (lo,len);congr 2;omega;cases a;cases a
def Ma (N:Nat) (T:List aw) (sc:bB) (ms:List bE) (args:aH) (mu:bP) (x:aZ args.aY):Option (aZ (aH.aY zy)):=
 match vz mu args x with
 |[_]=>mA N T sc (IH mu args x) (fun σ=>M4 σ ms) (fun _ _=>none) (fun σ=>M4 σ ms)
 |_=>none
theorem aq5 {T:List aw} {b:bB} {ms:List bE} {args:aH} {mu:bP} {x:aZ args.aY} {y:aZ (aH.aY zy)} (h:Ma aK T b ms args mu x=some y): ∃lo len,L9 (cV T) b.er ms mu (dV args x)=some (lo,len)/\UG (dV zy y)=some (lo,len):=by unfold Ma at h;split at h;rename_i p e;obtain⟨o,c,a⟩:=sM b h;rw[TQ] at c;unfold L9;rw[<-EC,e];simp only[BY,zbG];rw[c];(cases o with|fR τ=>obtain⟨d,rfl,a⟩:=a;exact afb a|ret τ=>obtain⟨d,rfl,a⟩:=a;exact afb a|ext i τ=>obtain⟨d,rfl,a⟩:=a;cases a);cases h
def Vb (P:Program) (fn:aw):Prop:=(fn.mu.fu=0->dd P fn.id fn.M)/\(fn.mu.fu=1->sZ P fn.id fn.mu fn.MM)/\(fn.mu.fu=2->Vd P fn.id fn.MV)/\(fn.mu.fu=3->Cs P fn.id fn.mu.tl fn.MW)/\(fn.mu.fu=4->zO P fn.id fn.mu.kH fn.MX)/\(fn.mu.fu=5->Fp P fn.id fn.M)/\bL P fn.id=true
def aF (P:Program) (T:List aw):Prop:=∀fn∈T,Vb P fn
theorem aF.nil {P:Program}:aF P []:=fun _ h=>by cases h
theorem aF.FN {P:Program} {fn:aw} {T:List aw} (h:Vb P fn) (b:aF P T):aF P (fn::T):=by intro g a;cases a with|head=>exact h|tail _ a=>exact b g a
theorem aF.cons {P:Program} {f:FuncId} {args aC:aH} {F:aZ args.aY->Option (aZ aC.aY)} {T:List aw} (h:dd P f (aw.M ⟨f,args,[],aC,F⟩)/\bL P f=true) (a:aF P T):aF P (⟨f,args,[],aC,F⟩::T):= aF.FN ⟨fun _=>h.1,fun hm=>(by cases hm),fun hm=>(by cases hm),fun hm=>(by cases hm),fun hm=>(by cases hm),fun hm=>(by cases hm),h.2⟩ a
theorem aF.vY {P:Program} {f:FuncId} {args:aH} {s:List (Option Mode)} {mu:bP} {aC:aH} {F:aZ args.aY->Option (aZ aC.aY)} {T:List aw} (h:sZ P f (s::mu) (aw.MM ⟨f,args,s::mu,aC,F⟩)/\bL P f=true) (b:aF P T) (a:bP.fu (s::mu)=1:=by rfl):aF P (⟨f,args,s::mu,aC,F⟩::T):= aF.FN ⟨fun hm=>absurd (a.symm.trans hm) (by decide),fun _=>h.1,fun hm=>absurd (a.symm.trans hm) (by decide),fun hm=>absurd (a.symm.trans hm) (by decide),fun hm=>absurd (a.symm.trans hm) (by decide),fun hm=>absurd (a.symm.trans hm) (by decide),h.2⟩ b
theorem aF.ahx {P:Program} {f:FuncId} {args:aH} {mu:bP} {aC:aH} {F:aZ args.aY->Option (aZ aC.aY)} {T:List aw} (h:Cs P f mu (aw.MW ⟨f,args,[some .aM,some .aM]::mu,aC,F⟩)/\bL P f=true) (a:aF P T):aF P (⟨f,args,[some .aM,some .aM]::mu,aC,F⟩::T):= aF.FN ⟨fun hm=>(by cases hm),fun hm=>(by cases hm),fun hm=>(by cases hm),fun _=>h.1,fun hm=>(by cases hm),fun hm=>(by cases hm),h.2⟩ a
theorem aF.V5 {P:Program} {f:FuncId} {args:aH} {mu:bP} {aC:aH} {F:aZ args.aY->Option (aZ aC.aY)} {T:List aw} (h:zO P f (bP.kH ([some .aM,some .aM,some .aM]::mu)) (aw.MX ⟨f,args,[some .aM,some .aM,some .aM]::mu,aC,F⟩)/\bL P f=true) (a:aF P T):aF P (⟨f,args,[some .aM,some .aM,some .aM]::mu,aC,F⟩::T):= aF.FN ⟨fun hm=>(by cases hm),fun hm=>(by cases hm),fun hm=>(by cases hm),fun hm=>(by cases hm),fun _=>h.1,fun hm=>(by cases hm),h.2⟩ a
theorem aF.uE {P:Program} {f:FuncId} {args:aH} {mu:bP} {aC:aH} {F:aZ args.aY->Option (aZ aC.aY)} {T:List aw} (h:Fp P f (aw.M ⟨f,args,[some .aM,some .aM,some .aM,some .aM]::mu,aC,F⟩)/\bL P f=true) (a:aF P T):aF P (⟨f,args,[some .aM,some .aM,some .aM,some .aM]::mu,aC,F⟩::T):= aF.FN ⟨fun hm=>(by cases hm),fun hm=>(by cases hm),fun hm=>(by cases hm),fun hm=>(by cases hm),fun hm=>(by cases hm),fun _=>h.1,h.2⟩ a
theorem Um:∀{T:List aw} {f:FuncId} {M:List Dv->Option (List Dv)},aQ.find (cV T).ns f=some M->∃fn∈T,fn.id=f/\M=fn.M/\fn.mu.fu=5
 |[],f,M,h=>by simp[cV,aQ.find] at h
 |g::l,f,M,h=>by simp only[cV,zam] at h;by_cases a:g.mu.fu=5;simp only[a,aQ.find] at h;split at h;rename_i e;injection h with h;exact⟨g,by simp,e.symm,h.symm,a⟩;obtain⟨fn,d,c,b⟩:=Um (T:=l) h;exact⟨fn,by simp[d],c,b⟩;split at h;obtain⟨fn,d,c,b⟩:=Um (T:=l) h;exact⟨fn,by simp[d],c,b⟩;rename_i z i;split at i;rename_i j;exact absurd j a;cases i
theorem Nc:∀{T:List aw} {f:FuncId} {M:List Dv->Option (List Dv)},aQ.find (cV T).pure f=some M->∃fn∈T,fn.id=f/\M=fn.M/\fn.mu.fu=0
 |[],f,M,h=>by simp[cV,aQ.find] at h
 |g::l,f,M,h=>by simp only[cV,zam] at h;by_cases a:g.mu.fu=0;simp only[a,aQ.find] at h;split at h;rename_i e;injection h with h;exact⟨g,by simp,e.symm,h.symm,a⟩;obtain⟨fn,d,c,b⟩:=Nc (T:=l) h;exact⟨fn,by simp[d],c,b⟩;split at h;obtain⟨fn,d,c,b⟩:=Nc (T:=l) h;exact⟨fn,by simp[d],c,b⟩;rename_i z i;split at i;rename_i j;exact absurd j a;cases i
theorem Ul:∀{T:List aw} {f:FuncId} {sig:bP} {M:List Dv->Option (List Dv×List C)},aQ.pQ (cV T).yP f=some (sig,M)->∃fn∈T,fn.id=f/\sig=fn.mu/\M=fn.MM/\fn.mu.fu=1
 |[],f,sig,M,h=>by simp[cV,aQ.pQ] at h
 |g::l,f,sig,M,h=>by simp only[cV,zam] at h;by_cases a:g.mu.fu=1;simp only[a,aQ.pQ] at h;split at h;rename_i e;injection h with h;injection h with k hb;exact⟨g,by simp,e.symm,k.symm,hb.symm,a⟩;obtain⟨fn,d,c,b⟩:=Ul (T:=l) h;exact⟨fn,by simp[d],c,b⟩;split at h;obtain⟨fn,d,c,b⟩:=Ul (T:=l) h;exact⟨fn,by simp[d],c,b⟩;rename_i z i;split at i;rename_i j;exact absurd j a;cases i
theorem Un:∀{T:List aw} {f:FuncId} {M:List Dv->Option (List Dv×List C)},aQ.lY (cV T).vs f=some M->∃fn∈T,fn.id=f/\M=fn.MV/\fn.mu.fu=2
 |[],f,M,h=>by simp[cV,aQ.lY] at h
 |g::l,f,M,h=>by simp only[cV,zam] at h;by_cases a:g.mu.fu=2;simp only[a,aQ.lY] at h;split at h;rename_i e;injection h with h;exact⟨g,by simp,e.symm,h.symm,a⟩;obtain⟨fn,d,c,b⟩:=Un (T:=l) h;exact⟨fn,by simp[d],c,b⟩;split at h;obtain⟨fn,d,c,b⟩:=Un (T:=l) h;exact⟨fn,by simp[d],c,b⟩;rename_i z i;split at i;rename_i j;exact absurd j a;cases i
theorem Uo:∀{T:List aw} {f:FuncId} {sig:bP} {M:List Dv->Option (Nat×Nat)},aQ.tr (cV T).ws f=some (sig,M)->∃fn∈T,fn.id=f/\sig=fn.mu.tl/\M=fn.MW/\fn.mu.fu=3
 |[],f,sig,M,h=>by simp[cV,aQ.tr] at h
 |g::l,f,sig,M,h=>by simp only[cV,zam] at h;by_cases a:g.mu.fu=3;simp only[a,aQ.tr] at h;split at h;rename_i e;injection h with h;injection h with k hb;exact⟨g,by simp,e.symm,k.symm,hb.symm,a⟩;obtain⟨fn,d,c,b⟩:=Uo (T:=l) h;exact⟨fn,by simp[d],c,b⟩;split at h;obtain⟨fn,d,c,b⟩:=Uo (T:=l) h;exact⟨fn,by simp[d],c,b⟩;rename_i z i;split at i;rename_i j;exact absurd j a;cases i
theorem Up:∀{T:List aw} {f:FuncId} {sig:Nat} {M:List Dv->Option (List Dv×List C)},aQ.tt (cV T).xs f=some (sig,M)->∃fn∈T,fn.id=f/\sig=fn.mu.kH/\M=fn.MX/\fn.mu.fu=4
 |[],f,sig,M,h=>by simp[cV,aQ.tt] at h
 |g::l,f,sig,M,h=>by simp only[cV,zam] at h;by_cases a:g.mu.fu=4;simp only[a,aQ.tt] at h;split at h;rename_i e;injection h with h;injection h with k hb;exact⟨g,by simp,e.symm,k.symm,hb.symm,a⟩;obtain⟨fn,d,c,b⟩:=Up (T:=l) h;exact⟨fn,by simp[d],c,b⟩;split at h;obtain⟨fn,d,c,b⟩:=Up (T:=l) h;exact⟨fn,by simp[d],c,b⟩;rename_i z i;split at i;rename_i j;exact absurd j a;cases i
theorem aF.tok {P:Program} {T:List aw} (h:aF P T):m4 P (cV T):=by refine⟨fun g M a=>?_,fun g sig M a=>?_,fun g M a=>?_,⟨fun g sig M a=>?_,fun g sig M a=>?_⟩,fun g M a=>?_,fun g M a=>?_⟩;obtain⟨b,d,c,e,f⟩:=Nc a;subst c e;exact(h b d).1 f;obtain⟨b,d,c,e,f,i⟩:=Ul a;subst c e f;exact(h b d).2.1 i;obtain⟨b,d,c,e,f⟩:=Un a;subst c e;exact(h b d).2.2.1 f;obtain⟨b,d,c,e,f,i⟩:=Uo a;subst c e f;exact(h b d).2.2.2.1 i;obtain⟨b,d,c,e,f,i⟩:=Up a;subst c e f;exact(h b d).2.2.2.2.1 i;obtain⟨b,d,c,e,f⟩:=Um a;subst c e;exact(h b d).2.2.2.2.2.1 f;obtain⟨b,d,c,e,f⟩:=Nc a;subst c;exact(h b d).2.2.2.2.2.2
def cI (P:Program) (f:FuncId) (mc:kJ) (ms:List bE) (n:Nat):Bool:=
 match P.funcs[f]? with
 |some fn=>match fn.body with
  |some c=>jG P fn.ntmps c mc&&nT P fn.results.toList ms&&decide (n<=fn.ntmps)&&(fn.name != "runtime.NumGoroutine")
  |none=>false
 |none=>false
theorem JS {P:Program} {f:FuncId} {d:kJ} {ms:List bE} {n:Nat} (h:cI P f d ms n=true):bL P f=true:=by unfold cI at h;unfold bL;split at h;rename_i fn a;split at h;rename_i c b;simp only[By] at h;simp[a,b,h.2];cases h;cases h
theorem dC {P:Program} {T:List aw} (h:aF P T) (hm:P.follows .mixedOrders=true) {f:FuncId} {b:bB} {ms:List bE} {args aC:aH} (a:cI P f b.er ms args.length=true) (F:aZ args.aY->Option (aZ aC.aY)) (k:∀x y,F x=some y->dq aK T b ms args aC x=some y):dd P f (aw.M ⟨f,args,[],aC,F⟩)/\bL P f=true:=by refine⟨?_,JS a⟩;unfold cI at a;split at a;rename_i fn i;split at a;rename_i c d;simp only[By,decide_eq_true_eq] at a;refine aqt (T:=cV T) h.tok hm i d a.1.1.1 a.1.1.2 fun ds rs j=>?_;obtain⟨x,y,g,l,e⟩:=aw.Jr j;subst g e;exact⟨by rw[F3];exact a.1.2,aq4 (k x y l)⟩;cases a;cases a
theorem Ed {P:Program} {T:List aw} (i:aF P T) (hm:P.follows .mixedOrders=true) {f:FuncId} {d:bB} {ms:List bE} {args:aH} {mu:bP} {aC:aH} (a:cI P f d.er ms args.length=true) (F:aZ args.aY->Option (aZ aC.aY)) (m:∀x y,F x=some y->y5 aK T d ms args mu aC x=some y):sZ P f mu (aw.MM ⟨f,args,mu,aC,F⟩)/\bL P f=true:=by refine⟨?_,JS a⟩;unfold cI at a;split at a;rename_i fn k;split at a;rename_i c e;simp only[By,decide_eq_true_eq] at a;refine anI (T:=cV T) i.tok hm k e a.1.1.1 a.1.1.2 fun ds rs dN b=>?_;unfold aw.MM at b;rw[zan] at b;obtain⟨pz,j,l⟩:=b;obtain⟨x,y,h,n,g⟩:=aw.Jr j;subst h g;refine⟨by rw[F3];exact a.1.2,?_⟩;rw[<-l];exact aq3 (m x y n);cases a;cases a
abbrev iA:K×List Ty:=(.one,[.int .i64])
theorem as4 {P:Program} {T:List aw} (m:aF P T) (hm:P.follows .mixedOrders=true) {f:FuncId} {i:bB} {ms:List bE} {b:K×List Ty} {args:aH} {mu:bP} {aC:aH} (a:cI P f i.er ms (b::args).length=true) (F:aZ (aH.aY (iA::iA::b::args))->Option (aZ aC.aY)) (r:∀x y,F x=some y->Ix aK T i ms mu.kH (b::args) aC x.1 x.2.1 x.2.2=some y):zO P f mu.kH (aw.MX ⟨f,iA::iA::b::args,mu,aC,F⟩)/\bL P f=true:=by refine⟨?_,JS a⟩;unfold cI at a;split at a;rename_i fn o;split at a;rename_i c j;simp only[By,decide_eq_true_eq] at a;refine as3 (T:=cV T) m.tok hm o j a.1.1.1 a.1.1.2 fun lo len ds rs dN h=>?_;unfold aw.MX at h;rw[zan] at h;obtain⟨pz,n,q⟩:=h;obtain⟨x,y,g,s,k⟩:=aw.Jr n;subst k;obtain⟨xa,xb,xs⟩:=x;have g:dI lo::dI (lo+len)::ds=((.one,[.int .i64 xa]):Dv)::((.one,[.int .i64 xb]):Dv)::dV (b::args) xs:=g;injection g with e d;injection d with d g3;have p:xa=((lo:Nat):Int):=(by unfold dI at e;injection e with _ e;injection e with e _;injection e with _ e;exact e.symm);have l:xb=((lo+len:Nat):Int):=(by unfold dI at d;injection d with _ d;injection d with d _;injection d with _ d;exact d.symm);subst p l g3;refine⟨by rw[F3];exact a.1.2,?_⟩;rw[<-q];exact aq6 (r _ y s);cases a;cases a
theorem asR {P:Program} {T:List aw} (i:aF P T) (hm:P.follows .mixedOrders=true) {f:FuncId} {b:bB} {ms:List bE} {args:aH} {mu:bP} (a:cI P f b.er ms args.length=true) (t:rk b.er=true) (F:aZ args.aY->Option (aZ (aH.aY zy))) (r:∀x y,F x=some y->Ma aK T b ms args mu x=some y):Cs P f mu (aw.MW ⟨f,args,[some .aM,some .aM]::mu,zy,F⟩)/\bL P f=true:=by refine⟨?_,JS a⟩;unfold cI at a;split at a;rename_i fn n;split at a;rename_i c e;simp only[By,decide_eq_true_eq] at a;refine asQ (T:=cV T) i.tok hm n e a.1.1.1 a.1.1.2 t fun ds lo len d=>?_;unfold aw.MW at d;rw[za7] at d;obtain⟨pz,l,q⟩:=d;obtain⟨x,y,h,s,g⟩:=aw.Jr l;subst h g;obtain⟨j,m,p,o⟩:=aq5 (r x y s);have:(j,m)=(lo,len):=(by have:=o.symm.trans q;injection this);injection this with k g2;subst k g2;exact⟨by rw[F3];exact a.1.2,p⟩;cases a;cases a
def eN:aH:=[(.one,[.list [.int .i64]])]
def dD:bP:=[]
def zg:aH:=[(.one,[.list [.int .i64]]),(.one,[.list [.int .i64]])]
def cG:aH:=[(.one,[.bool])]
def Mw:aH:=[(.agg,[.list [.int .i64],.list [.int .i64],.list [.int .i64]]),(.agg,[.list [.int .i64],.list [.int .i64],.list [.int .i64]])]
def Bu:aH:=[(.agg,[.int .i64,.int .i64])]
def MD:aH:=[(.agg,[.int .i64,.int .i64]),(.agg,[.int .i64,.int .i64])]
def zk:aH:=[(.one,[.list [.int .i64,.int .i64]]),(.one,[.int .i64])]
def eu:aH:=[(.one,[.int .i64])]
def Bv:aH:=[(.one,[.list [.int .i64,.int .i64]])]
def Mk:aH:=[(.one,[.list [.int .i64,.int .i64]]),(.one,[.list [.int .i64,.int .i64]])]
def ze:aH:=[(.agg,[.int .i64,.list [.int .i64,.int .i64]]),(.one,[.int .i64])]
def pA:aH:=[(.agg,[.int .i64,.list [.int .i64,.int .i64]])]
def Ml:aH:=[(.agg,[.int .i64,.list [.int .i64,.int .i64]]),(.agg,[.int .i64,.list [.int .i64,.int .i64]])]
def lR:aH:=[(.one,[.list [.int .i64]]),(.one,[.int .i64])]
def TK:aH:=[(.one,[.int .i64]),(.one,[.list [.int .i64]])]
def zf:bP:=[[some .aN]]
def ED:aH:=[(.one,[.int .i64]),(.one,[.list [.int .i64,.int .i64]])]
def Mm:bP:=[[none,some .aN]]
def Mn:aH:=[(.one,[.int .i64]),(.one,[.int .i64]),(.one,[.int .i64])]
def lS:aH:=[(.agg,[.list [.int .i64],.list [.int .i64],.list [.int .i64]])]
def fj:aH:=[(.agg,[.int .i64,.int .i64,.int .i64])]
def oJ:aH:=[(.agg,[.int .i64,.int .i64,.int .i64]),(.one,[.list [.int .i64]])]
def sP:aH:=[(.agg,[.int .i64,.int .i64,.int .i64]),(.one,[.list [.int .i64]]),(.one,[.list [.int .i64]])]
def jS:aH:=[(.agg,[.int .i64,.int .i64,.int .i64]),(.agg,[.int .i64,.list [.int .i64,.int .i64]]),(.one,[.int .i64]),(.one,[.list [.int .i64]])]
def sQ:aH:=[(.agg,[.int .i64,.int .i64,.int .i64]),(.agg,[.list [.int .i64],.list [.int .i64],.list [.int .i64]])]
def Mo:aH:=[(.agg,[.int .i64,.int .i64,.int .i64]),(.agg,[.list [.int .i64],.list [.int .i64],.list [.int .i64]]),(.one,[.int .i64]),(.one,[.list [.int .i64]])]
def Mp:bP:=[[],[none,none,some .aN]]
def Mq:aH:=[(.agg,[.int .i64,.int .i64,.int .i64]),(.agg,[.list [.int .i64],.list [.int .i64],.list [.int .i64]]),(.one,[.int .i64])]
def arI:aH:=[(.one,[.int .i64]),(.one,[.int .i64])]
def Mr:bP:=[[some .aM,some .aM],[],[none,none,some .aN]]
def Ms:aH:=[(.agg,[.int .i64,.int .i64,.int .i64]),(.one,[.list [.int .i64]]),(.one,[.list [.int .i64]]),(.one,[.list [.int .i64]])]
def aeG:aH:=[(.one,[.int .i64]),(.one,[.int .i64]),(.agg,[.int .i64,.int .i64,.int .i64]),(.one,[.list [.int .i64]]),(.one,[.list [.int .i64]])]
def Mt:bP:=[[some .aM,some .aM,some .aM],[],[some .aN]]
def Bt:aH:=[(.one,[.list [.list [.int .i64],.list [.int .i64],.list [.int .i64]]])]
def TL:aH:=[(.agg,(Pe 100 (.int .i64))),(.one,[.bool])]
def Mu:aH:=[(.agg,(Pe 100 (.int .i64))),(.one,[.list [.int .i64]])]
def zh:aH:=[(.agg,[.int .i64,.int .i64,.int .i64,.list [.list [.int .i64],.list [.int .i64],.list [.int .i64]],.list [.int .i64]])]
def sR:aH:=[(.one,[.list [.list [.int .i64],.list [.int .i64],.list [.int .i64]]]),(.one,[.int .i64])]
def Mv:aH:=[(.one,[.list [.list [.int .i64],.list [.int .i64],.list [.int .i64]]]),(.one,[.list [.int .i64]])]
def Mx:aH:=[(.agg,[.int .i64,.int .i64,.int .i64]),(.agg,[.int .i64,.list [.int .i64,.int .i64]]),(.one,[.int .i64])]
def EE:aH:=[(.agg,[.int .i64,.int .i64,.int .i64,.list [.list [.int .i64],.list [.int .i64],.list [.int .i64]],.list [.int .i64]]),(.one,[.bool])]
def My:aH:=[(.agg,[.int .i64,.int .i64,.int .i64]),(.agg,[.int .i64,.int .i64,.int .i64])]
def Mz:aH:=[(.one,[.list [.list [.int .i64],.list [.int .i64],.list [.int .i64]]]),(.one,[.list [.list [.int .i64],.list [.int .i64],.list [.int .i64]]])]
def MA:aH:=[(.agg,[.int .i64,.int .i64,.int .i64,.list [.list [.int .i64],.list [.int .i64],.list [.int .i64]],.list [.int .i64]]),(.agg,[.int .i64,.int .i64,.int .i64,.list [.list [.int .i64],.list [.int .i64],.list [.int .i64]],.list [.int .i64]])]
def TM:aH:=[(.one,[.int .i64]),(.one,[.list [.list [.int .i64],.list [.int .i64],.list [.int .i64]]])]
def MB:bP:=[[some .live]]
def zj:aH:=[(.agg,[.int .i64,.int .i64,.int .i64,.list [.list [.int .i64],.list [.int .i64],.list [.int .i64]],.list [.int .i64]]),(.one,[.int .i64])]
def TN:aH:=[(.one,[.int .i64]),(.one,[.list [.list [.int .i64],.list [.int .i64],.list [.int .i64]]]),(.one,[.list [.int .i64]])]
def MC:bP:=[[none,none,none,some .live,some .aN]]
abbrev pM:List Ty:=Pe 100 (.int .i64)
abbrev lU:=Ty.DL pM
def vf:(n:Nat)->Ty.DL (Pe n (.int .i64))->U
 |0,_=>[]
 |1,x=>[x]
 |n+2,x=>x.1::vf (n+1) x.2
theorem K3:∀(n:Nat) (x:Ty.DL (Pe n (.int .i64))),(vf n x).length=n
 |0,_=>rfl
 |1,_=>rfl
 |n+2,x=>congrArg (·+1) (K3 (n+1) x.2)
def E3 (v:Int):TD:=⟨.int .i64,v⟩
theorem Pw:∀(n:Nat) (x:Ty.DL (Pe n (.int .i64))),Ty.fT (Pe n (.int .i64)) x=(vf n x).map E3
 |0,_=>rfl
 |1,_=>rfl
 |n+2,x=>congrArg (zb7 (E3 x.1)) (Pw (n+1) x.2)
theorem ag7 (v:Int):Ty.cast (.int .i64) (.int .i64) v=some v:=rfl
theorem anE {t:Ty} {ts:List Ty} {c:TD} {cs:List TD} {y:t.D} {z:Ty.DL ts} (b:Ty.cast c.1 t c.2=some y) (a:nE ts cs=some z):nE (t::ts) (c::cs)=some (vW t ts y z):=by simp only[nE,b,a]
theorem aaQ:∀(n:Nat) (l:U),l.length=n->∃y,nE (Pe n (.int .i64)) (l.map E3)=some y/\vf n y=l
 |0,[],_=>⟨(),rfl,rfl⟩
 |1,[v],_=>⟨v,rfl,rfl⟩
 |n+2,v::w::l,h=>by obtain⟨y,b,a⟩:=aaQ (n+1) (w::l) (Nat.succ.inj h);exact⟨(v,y),anE (t:=.int .i64) (ts:=Pe (n+1) (.int .i64)) (c:=E3 v) (ag7 v) b,congrArg (zb7 v) a⟩
 |0,_::_,h=>by cases h
 |1,[],h=>by cases h
 |1,_::_::_,h=>by cases h
 |n+2,[],h=>by cases h
 |n+2,[_],h=>by cases h
def gA (a:lU) (i:Nat):Int:=(vf 100 a).getD i 0
theorem ajT (a:lU) {i:Nat} (h:i<100):uN pM a i=some (gA a i):=by have hl:i<(vf 100 a).length:=(by rw[K3];exact h);have e:(Ty.fT pM a)[i]? =some (E3 (gA a i)):=(by rw[Pw 100 a,zab,gA,AI,co hl];rfl);unfold uN;rw[e];rfl
theorem arF (a:lU) {i:Nat} (v:Int) (h:i<100):∃b,zd pM a i v=some b/\∀j,gA b j=if j=i then v else gA a j:=by have hl:((vf 100 a).set i v).length=100:=(by rw[zbR,K3]);obtain⟨y,f,g⟩:=aaQ 100 _ hl;refine⟨y,?_,fun j=>?_⟩;have e:(Ty.fT pM a).set i ⟨.int .i64,v⟩=((vf 100 a).set i v).map E3:=(by rw[Pw 100 a,zb5];rfl);unfold zd;rw[e,decide_eq_true (show i<pM.length by rw[List.length_replicate];exact h)];exact f;have d:i<(vf 100 a).length:=(by rw[K3];exact h);simp only[gA,g,AI,List.getElem?_set];by_cases c:j=i;subst c;rw[ak rfl,ak d,ak rfl];rfl;rw[aq (fun e=>c e.symm),aq c]
theorem ZK:∀n:Nat,vf n (xu n)=Pe n 0
 |0=>rfl
 |1=>rfl
 |n+2=>congrArg (zb7 0) (ZK (n+1))
theorem ajP (i:Nat):gA (xu 100) i=0:=by rw[gA,ZK,AI,za8];split<;>rfl
theorem aaB {X Y:Type} {f:X->Option (X⊕Y)} {r:Y} (P:Nat->X->Prop) (step:∀n x,P n x->f x=some (.inr r)\/∃m x',m<n/\f x=some (.inl x')/\P m x'): ∀n x,P n x->∀N,n<N->cd N f x=some r:=by intro n;induction n using Nat.strongRecOn with|ind n c=>intro x b N hN;cases N with|zero=>omega|succ N=>rcases step n x b with h|⟨m,x',hm,h,a⟩;simp only[cd,h];simp only[cd,h];exact c m hm x' a N (by omega)
theorem eZ {α:Type} (xs:List α) (i:Nat):cW xs (i:Int)=xs[i]? :=by simp[cW]
theorem UK {n:Int} (h1: -9223372036854775808<=n) (h2:n<=9223372036854775807):IntKind.wrap .i64 n=n:=by rw[IntKind.wrap_i64];omega
theorem fb {a b:Int} (c: -9223372036854775808<=a+b:=by omega) (d:a+b<=9223372036854775807:=by omega):cH .i64 a b=a+b:=UK c d
theorem BF {a b:Int} (c: -9223372036854775808<=a - b:=by omega) (d:a - b<=9223372036854775807:=by omega):t5 .i64 a b=a - b:=UK c d
theorem bw {α β:Type} (x:α) (f:α->Option β):(some x).ae f=f x:=rfl
theorem ft {X ρ:Type} (x:X) (k:X->Option ρ):cT (some (.inl x)) k=k x:=rfl
theorem AX {X ρ:Type} (x:ρ) (k:X->Option ρ):cT (some (.inr x):Option (X⊕ρ)) k=some x:=rfl
theorem bm {α:Type} {b:Bool} (h:b=true) (x y:α):au b x y=x:=by rw[h];rfl
theorem bi {α:Type} {b:Bool} (h:b=false) (x y:α):au b x y=y:=by rw[h];rfl
theorem nl {α:Type} (l:List α):aU (af l)=(l.length:Int):=rfl
theorem eE {a b:Int} (h:a<b:=by omega):bF a b=true:=decide_eq_true h
theorem dY {a b:Int} (h:b<=a:=by omega):bF a b=false:=decide_eq_false (Int.not_lt.2 h)
theorem yL {a b:Int} (h:a<=b:=by omega):gO a b=true:=decide_eq_true h
theorem Lp {a b:Int} (h:b<a:=by omega):gO a b=false:=decide_eq_false (Int.not_le.2 h)
theorem Al {a b:Int} (h:a=b):bR a b=true:=by simp[bR,h]
theorem xT {a b:Int} (h:a≠b:=by omega):bR a b=false:=by simp[bR,h]
theorem yT {a b:Int} (h:a≠b):ff a b=true:=by simp[ff,h]
theorem tQ {a b:Int} (h:a=b):ff a b=false:=by simp[ff,h]
theorem H9 {p:Prop} [Decidable p] (h:¬p):dh (decide p)=true:=by simp[dh,h]
theorem Bf {p:Prop} [Decidable p] (h:p):dh (decide p)=false:=by simp[dh,h]
theorem de (n:Nat):bj 0 n n=some ():=by simp[bj]
theorem j9 {α:Type} (xs:List α):d9 xs (af xs)=some xs:=by simp[d9,af]
theorem mD {α:Type} (xs:List α):cM xs 0 (af xs)=some xs:=by simp[cM,af]
theorem HW {n by_:Nat} (h:n*by_<=fQ):mr (aU n) (aU n) by_=some n:=by simp[mr,aU,h]
theorem vT {i n:Nat} (h:i<n):dw (i:Int) n=some i:=by simp[dw];omega
theorem fF {n:Nat} (h:n<18446744073709551616:=by omega):n<aK:=h
theorem drop_cons {α:Type} {xs:List α} {i:Nat} {x:α} (h:xs[i]? =some x):xs.drop i=x::xs.drop (i+1):=by obtain⟨b,a⟩:=IN.1 h;rw[List.drop_eq_getElem_cons b,a]
theorem aaA {X Y:Type} {f:X->Option (X⊕Y)} (st:Nat->X) {r:Y}:∀(n i:Nat),(∀j,i<=j->j<i+n->f (st j)=some (.inl (st (j+1))))->f (st (i+n))=some (.inr r)->∀N,n<N->cd N f (st i)=some r
 |0,i,_,a,N+1,_=>by have a:f (st i)=some (.inr r):=a;simp only[cd,a]
 |n+1,i,h1,a,N+1,hN=>by simp only[cd,h1 i (zac i) (by omega)];exact aaA st n (i+1) (fun j h3 h4=>h1 j (by omega) (by omega)) (by rw[show i+1+n=i+(n+1) by omega];exact a) N (by omega)
 |_,_,_,_,0,h=>by omega
theorem iG {X Y:Type} {f:X->Option (X⊕Y)} (st:Nat->X) {r:Y} (n:Nat) (d:∀j,j<n->f (st j)=some (.inl (st (j+1)))) (c:f (st n)=some (.inr r)) {a:X} (b:a=st 0) {N:Nat} (e:n<N):cd N f a=some r:=by subst b;exact aaA st n 0 (fun j _ h=>d j (by omega)) (by rw[zav];exact c) N e
theorem Lv {X Y α:Type} {f:X->Option (X⊕Y)} (es:List α) (b:Nat->X) (p:α->Bool) (c e7:Y)
  (m:∀i a,es[i]? =some a->p a=true->f (b i)=some (.inl (b (i+1)))) (q:∀i a,es[i]? =some a->p a=false->f (b i)=some (.inr c)) (h:f (b es.length)=some (.inr e7)) {g:X} (n:g=b 0) {N:Nat} (d:es.length<N):
  cd N f g=some (if es.all p=true then e7 else c):=by
 subst n;have j:∀(k:Nat) (i:Nat),i+k=es.length->∀N,k<N->cd N f (b i)=some (if(es.drop i).all p=true then e7 else c):=by
  intro k;induction k with
  |zero=>
   intro i l N d;obtain⟨N,rfl⟩:∃M,N=M+1:=⟨N - 1,by omega⟩;have:i=es.length:=by omega
   subst this;simp only[cd,h,zaO,List.all_nil,if_true]
  |succ k o=>
   intro i l N d;obtain⟨N,rfl⟩:∃M,N=M+1:=⟨N - 1,by omega⟩;obtain⟨a,e⟩:∃a,es[i]? =some a:=⟨_,co (by omega)⟩;rw[drop_cons e];cases hp:p a with
   |true=>
    simp only[cd,m i a e hp,zaB,hp,zaR];exact o (i+1) (by omega) N (by omega)
   |false=>simp only[cd,q i a e hp,zaB,hp,Bool.false_and,zaA,if_false]
 exact j es.length 0 (by omega) N d
def wc {S α:Type} (step:Nat->S->α->Option S):Nat->S->List α->Option S
 |_,s,[]=>some s
 |i,s,a::as=>match step i s a with
  |some s'=>wc step (i+1) s' as
  |none=>none
theorem ans {X Y α S:Type} {f:X->Option (X⊕Y)} (es:List α) (c:S->Nat->X) (I:Nat->S->Prop) (step:Nat->S->α->Option S) (e:Y) (e7:S->Y)
  (q:∀i s a b,es[i]? =some a->I i s->step i s a=some b->f (c s i)=some (.inl (c b (i+1)))/\I (i+1) b)
  (u:∀i s a,es[i]? =some a->I i s->step i s a=none->f (c s i)=some (.inr e))
  (m:∀s,I es.length s->f (c s es.length)=some (.inr (e7 s))) {s:S} (r:I 0 s) {j:X} (hx:j=c s 0) {N:Nat} (g:es.length<N):
  cd N f j=some (match wc step 0 s es with|some b=>e7 b|none=>e):=by
 subst hx;have n:∀(k:Nat) (i:Nat) (s:S),I i s->i+k=es.length->∀N,k<N->cd N f (c s i)=some (match wc step i s (es.drop i) with|some b=>e7 b|none=>e):=by
  intro k;induction k with
  |zero=>
   intro i s d o N g;obtain⟨N,rfl⟩:∃M,N=M+1:=⟨N - 1,by omega⟩;have:i=es.length:=by omega
   subst this;simp only[cd,m s d,zaO,wc]
  |succ k t=>
   intro i s d o N g;obtain⟨N,rfl⟩:∃M,N=M+1:=⟨N - 1,by omega⟩;obtain⟨a,h⟩:∃a,es[i]? =some a:=⟨_,co (by omega)⟩;rw[drop_cons h];cases hp:step i s a with
   |some b=>
    obtain⟨p,l⟩:=q i s a b h d hp;simp only[cd,p,wc,hp];exact t (i+1) b l (by omega) N (by omega)
   |none=>simp only[cd,u i s a h d hp,wc,hp]
 exact n es.length 0 s r (by omega) N g
def uI {S α:Type} (step:Nat->S->α->S):Nat->S->List α->S
 |_,s,[]=>s
 |i,s,a::as=>uI step (i+1) (step i s a) as
theorem anr {X Y α S:Type} {f:X->Option (X⊕Y)} (es:List α) (b:S->Nat->X) (I:Nat->S->Prop) (step:Nat->S->α->S) (e7:S->Y) (o:∀i s a,es[i]? =some a->I i s->f (b s i)=some (.inl (b (step i s a) (i+1)))/\I (i+1) (step i s a)) (j:∀s,I es.length s->f (b s es.length)=some (.inr (e7 s))) {s:S} (p:I 0 s) {e:X} (hx:e=b s 0) {N:Nat} (c:es.length<N): cd N f e=some (e7 (uI step 0 s es)):=by subst hx;have l:∀(k:Nat) (i:Nat) (s:S),I i s->i+k=es.length->∀N,k<N->cd N f (b s i)=some (e7 (uI step i s (es.drop i))):=(by intro k;induction k with|zero=>intro i s d m N c;obtain⟨N,rfl⟩:∃M,N=M+1:=⟨N - 1,by omega⟩;have:i=es.length:=(by omega);subst this;simp only[cd,j s d,zaO,uI]|succ k q=>intro i s d m N c;obtain⟨N,rfl⟩:∃M,N=M+1:=⟨N - 1,by omega⟩;obtain⟨a,g⟩:∃a,es[i]? =some a:=⟨_,co (by omega)⟩;rw[drop_cons g];obtain⟨n,h⟩:=o i s a g d;simp only[cd,n,uI];exact q (i+1) _ h (by omega) N (by omega));exact l es.length 0 s p (by omega) N c
theorem qb {α:Type} {es:List α} {i:Nat} {a:α} (h:es[i]? =some a):bF (i:Int) (aU (af es))=true:=by have:=(IN.1 h).1;exact eE (by have:=nl es;omega)
theorem vn {α:Type} (es:List α):bF ((es.length:Nat):Int) (aU (af es))=false:=dY (by have:=nl es;omega)
theorem sB {α:Type} {es:List α} {i:Nat} {a:α} (h:es[i]? =some a) (hl:es.length<=9223372036854775807):cH .i64 (i:Int) 1=((i+1:Nat):Int):=by have:=(IN.1 h).1;rw[fb];omega
theorem Lx {α:Type} {es:List α} {i:Nat} {a:α} (h:es[i]? =some a):i<es.length:=(IN.1 h).1
theorem af1 (n:Int) (atj:0<=n) (atk:n<2^63):IntKind.i64.wrap n=n:=by rw[IntKind.wrap_i64];omega
theorem apj {a b:Nat} (c:a<2^63) (d:b<2^63):yW .i64 (a:Int) (b:Int)=((a|||b:Nat):Int):=(bits_nat .i64 63 (by decide) af1 a b c d).2
theorem arP {k:Nat} (b:k<63):zl .i64 1 (k:Int)=some ((2^k:Nat):Int):=by unfold zl;rw[aq (by omega)];congr 1;rw[If,show min k (IntKind.bits .i64)=k from Nat.min_eq_left (by simp[IntKind.bits];omega),zbt];have:(2:Int)^k=((2^k:Nat):Int):=(by norm_cast);rw[this];refine af1 _ (Int.natCast_nonneg _) ?_;have:=Nat.pow_lt_pow_right (a:=2) (by decide) b;exact_mod_cast this
theorem re {z:Int} (h:0<=z):∃n:Nat,z=(n:Int):=⟨z.toNat,by omega⟩
theorem tO {α:Type} (l:List α) (k:Nat) (x:α):af (bh l k x)=af l:=by simp[af,bh]
theorem D8 {α:Type} (n:Nat) (x:α):af (dn n x)=n:=by simp[af,dn]
theorem tu {n k:Nat} (h:n*k<=fQ):n3 n k=some ():=ak h
theorem uu (k:Nat):aE 0 k=k:=by simp[aE]
theorem FI {α:Type} {l:List α} {i:Nat} {a:α} (h:l[i]? =some a):dw (i:Int) (af l)=some i:=vT (Lx h)
theorem HV (a b:Int):oE a b=min a b:=by unfold oE;split<;>omega
theorem aaH (a b:Int):sx a b=max a b:=by unfold sx;split<;>omega
theorem HZ (a b:Int):ff a b= !decide (a=b):=by by_cases h:a=b<;>simp[ff,h]
theorem aap {n:Nat}:∀{l:List Nat},n∈l->n<=l.sum
 |[],h=>by cases h
 |a::l,h=>by rw[zaS];rcases za6.1 h with rfl|h;omega;have:=aap h;omega
def t7 (s:Nat) (k:Int):Int:=if(s:Int)<=k then k - s else -1
theorem afm {s:Nat} {k:Int} (h:(s:Int)<=k):t7 s k=k - s:=ak h
theorem afl {s:Nat} {k:Int} (h:¬(s:Int)<=k):t7 s k= -1:=aq h
def Sa (k:Int):Prop:=0<=k/\k<=1048576
instance (k:Int):Decidable (Sa k):=inferInstanceAs (Decidable (0<=k/\k<=1048576))
theorem szK {o:Option Int} {s:Nat} {k:Int} {f:Int->Option Int} (a:o=some (t7 s k)):o.ae (fun i=>au (bF i 0) (some (-1)) (f i))=if(s:Int)<=k then f (k - s) else some (-1):=by rw[a,bw];unfold t7;by_cases h:(s:Int)<=k;rw[ak h,ak h,bi dY];rw[aq h,aq h,bm eE]
def wb {α:Type} (z:α) (l:List α) (i:Nat):List α:=l.take i++Pe (l.length - i) z
theorem W0 {α Y:Type} {f:(List α×Int)×List α->Option (((List α×Int)×List α)⊕Y)} (l:List α) (z:α) {r:Y} (d:∀(i:Nat) e ys,l[i]? =some e->ys.length=l.length->ys[i]? =some z->f ((l,(i:Int)),ys)=some (.inl ((l,((i+1:Nat):Int)),ys.set i e))) (c:f ((l,(l.length:Int)),l)=some (.inr r)) (hl:l.length<18446744073709551616):cd aK f ((l,0),dn (af l) z)=some r:=by refine iG (fun i=>((l,(i:Int)),wb z l i)) l.length ?_ ?_ ?_ (fF hl);intro j b;obtain⟨e,a⟩:∃e,l[j]? =some e:=⟨_,co b⟩;rw[d j e _ a (by simp[wb];omega)];have:(wb z l j).set j e=wb z l (j+1):=(by unfold wb;rw[zbe _ _ (by simp;omega),zaI,a,show l.length - j=(l.length - (j+1))+1 by omega,zbs];simp only[IT,show j - min j l.length=0 by omega,zby,Option.toList_some,zbC,zbK,zbd]);rw[this];unfold wb;rw[zao (by simp;omega)];simp only[IT,show j - min j l.length=0 by omega];rw[za8,ak (by omega)];have:wb z l l.length=l:=(by simp[wb]);rw[this];exact c;simp[wb,dn,af]
theorem PH {α:Type} [DecidableEq α] (E:α×α->Option Bool) (l r:List α) (j:∀a∈l,∀b,E (a,b)=some (decide (a=b))) (hl:l.length<=4611686018427387904): au (ff (aU (af l)) (aU (af r))) (some false) (cT (cd aK (fun s:List α×List α×Int=>au (bF s.2.2 (aU (af s.1))) ((cW s.1 s.2.2).ae fun a=>(cW s.2.1 s.2.2).ae fun b=>(E (a,b)).ae fun c=>au (dh c) (some (.inr (.inr false))) (some (.inl (s.1,s.2.1,cH .i64 s.2.2 1)))) (some (.inr (.inl ())))) (l,r,0)) fun _=>some true)=some (decide (l=r)):=by by_cases g:l.length=r.length;rw[bi (tQ (by have:=nl l;have:=nl r;omega))];have m:(l.zip r).length=l.length:=(by simp;omega);rw[Lv (l.zip r) (fun i=>(l,r,(i:Int))) (fun p=>decide (p.1=p.2)) (AN false) (wt ()) ?_ ?_ ?_ ?_ fF];have:((l.zip r).all fun p=>decide (p.1=p.2))=decide (l=r):=(by clear j hl m;induction l generalizing r with|nil=>(cases r with|nil=>rfl|cons b r=>cases g)|cons a l n=>cases r with|nil=>cases g|cons b r=>simp only[List.zip_cons_cons,zaB];rw[n r (by simpa using g)];simp only[List.cons.injEq,Bool.decide_and]);rw[this];by_cases h:l=r<;>simp[h,cT];rintro i ⟨a,b⟩ k e;obtain⟨d,f⟩:=za3.1 k;simp only at d f e⊢;rw[bm (qb d),eZ,d,bw,eZ,f,bw,j a (zad d),bw,bi (by rw[e];rfl),sB d (by omega)];rintro i ⟨a,b⟩ k e;obtain⟨d,f⟩:=za3.1 k;simp only at d f e⊢;rw[bm (qb d),eZ,d,bw,eZ,f,bw,j a (zad d),bw,bm (by rw[e];rfl)];simp only;rw[m,bi (vn l)];rfl;rw[bm (yT (by have:=nl l;have:=nl r;omega)),decide_eq_false (fun h=>g (by rw[h]))]
theorem ahQ (l r:U) (hl:l.length<=4611686018427387904): au (ff (aU (af l)) (aU (af r))) (some false) (cT (cd aK (fun s:U×U×Int=>au (bF s.2.2 (aU (af s.1))) ((cW s.1 s.2.2).ae fun a=>(cW s.2.1 s.2.2).ae fun b=>au (ff a b) (some (.inr (.inr false))) (some (.inl (s.1,s.2.1,cH .i64 s.2.2 1)))) (some (.inr (.inl ())))) (l,r,0)) fun _=>some true)=some (decide (l=r)):=by have:=PH (fun p:Int×Int=>some (decide (p.1=p.2))) l r (fun _ _ _=>rfl) hl;refine Eq.trans ?_ this;congr 3
def gU {α:Type} (cD:α->Nat) (mk:α->Int->α):List α->Int->List α
 |[],_=>[]
 |e::l,k=>mk e k::gU cD mk l (k+cD e)
def je {α:Type} (cD:α->Nat) (l:List α):Nat:=(l.map cD).sum
theorem ahp {α:Type} (cD:α->Nat):je cD []=0:=rfl
theorem JX {α:Type} (cD:α->Nat) (e:α) (l:List α):je cD (e::l)=cD e+je cD l:=by simp[je]
theorem aho {α:Type} (cD:α->Nat) (l r:List α):je cD (l++r)=je cD l+je cD r:=by simp[je]
theorem Bd {α:Type} (cD:α->Nat) (a:α->Int->α):∀(l:List α) (k:Int),(gU cD a l k).length=l.length
 |[],_=>rfl
 |e::l,k=>by simp[gU,Bd cD a l]
theorem aaP {α:Type} (cD:α->Nat) (a:α->Int->α):∀(l r:List α) (k:Int),gU cD a (l++r) k=gU cD a l k++gU cD a r (k+je cD l)
 |[],r,k=>by simp[gU,je]
 |e::l,r,k=>by simp only[zbK,gU,aaP cD a l r,JX];rw[show k+(cD e:Int)+(je cD l:Nat)=k+((cD e+je cD l:Nat):Int) by omega]
theorem IW {α:Type} (cD:α->Nat) (a:α->Int->α) (f:α->Nat) (b:∀e k,f (a e k)=f e):∀(l:List α) (k:Int),((gU cD a l k).map f).sum=(l.map f).sum
 |[],_=>rfl
 |e::l,k=>by simp[gU,b,IW cD a f b l]
theorem SF {α:Type} (cD:α->Nat) (a:α->Int->α) (b:∀e k,cD (a e k)=cD e) (hm:∀e k,a (a e k) k=a e k):∀(l:List α) (k:Int),gU cD a (gU cD a l k) k=gU cD a l k
 |[],_=>rfl
 |e::l,k=>by simp only[gU,hm,b,SF cD a b hm l]
theorem FL {α:Type} (cD sz:α->Nat) (a:∀e,cD e<=4*(1+sz e)):∀l:List α,je cD l<=4*(l.length+(l.map sz).sum)
 |[]=>by simp[je]
 |e::l=>by have:=FL cD sz a l;have:=a e;simp only[JX,OF,BY,zaS];omega
theorem Sz {α Y:Type} {f:(Int×Int)×List α->Option (((Int×Int)×List α)⊕Y)} (l:List α) (cD sz:α->Nat) (b:α->Int->α) (k:Int) {r:Y} (h:∀e,cD e<=4*(1+sz e))
  (hk:0<=k) (hb:k+4*(l.length+(l.map sz).sum:Nat)<=1099511627776)
  (m:∀(i:Nat) e ys (k':Int),l[i]? =some e->ys.length=l.length->ys[i]? =some e->0<=k'->k'+4*(1+sz e:Nat)<=1099511627776->f ((k',(i:Int)),ys)=some (.inl ((k'+cD e,((i+1:Nat):Int)),ys.set i (b e k'))))
  (p:f ((k+je cD l,(l.length:Int)),gU cD b l k)=some (.inr r)):cd aK f ((k,0),l)=some r:=by
 refine iG (fun i=>((k+(je cD (l.take i):Nat),(i:Int)),gU cD b (l.take i) k++l.drop i)) l.length ?_ ?_ ?_ fF
 ·intro j o;obtain⟨e,c⟩:∃e,l[j]? =some e:=⟨_,co o⟩;have a:(gU cD b (l.take j) k).length=j:=by rw[Bd,IT];omega
  have ath:(l.map sz).sum=((l.take j).map sz).sum+(sz e+((l.drop (j+1)).map sz).sum):=by
   conv=>lhs;rw[<-zbf j l,drop_cons c]
   rw[zbg,List.sum_append,BY,zaS]
  have d:=FL cD sz h (l.take j);rw[IT] at d;rw[m j e _ _ c (by rw[zah,a,zbL];omega) (by rw[zao (by omega),a,zaZ,zaC];simpa using c) (by omega) (by omega)];have g:l.take (j+1)=l.take j++[e]:=by rw[zaI,c];rfl
  have n:(gU cD b (l.take j) k++l.drop j).set j (b e (k+(je cD (l.take j):Nat)))=gU cD b (l.take (j+1)) k++l.drop (j+1):=by
   rw[g,aaP,drop_cons c,zbe _ _ (by omega),a,zaZ,zby,zbC];rfl
  rw[n,g,aho,JX,ahp,show k+(je cD (l.take j):Nat)+(cD e:Nat)=k+((je cD (l.take j)+(cD e+0):Nat):Int) by omega]
 ·simp only[zat,zaO,List.append_nil];exact p
 ·simp[je,gU]
theorem YJ {α:Type} [DecidableEq α] (cD:α->Nat) (a:α->Int->α):∀(l:List α) (i:Nat) (k:Int), wc (fun _ (k:Int) e=>if e=a e k then some (k+(cD e:Int)) else none) i k l=if l=gU cD a l k then some (k+(je cD l:Int)) else none
 |[],i,k=>by simp[wc,gU,je]
 |e::l,i,k=>by simp only[wc,gU,JX];by_cases h:e=a e k;rw[ak h];simp only;rw[YJ cD a l];by_cases b:l=gU cD a l (k+cD e);rw[ak b,ak (by rw[<-h,<-b])];congr 1;omega;rw[aq b,aq (fun c=>b (zb2 c).2)];rw[aq h,aq (fun c=>h (zb2 c).1)]
theorem YK {α:Type} [DecidableEq α] {f:List α×Int×Int->Option ((List α×Int×Int)⊕(Int⊕Int))} (l:List α) (cD sz:α->Nat) (d:α->Int->α) (k:Int) (m:∀e,cD e<=4*(1+sz e))
  (n:0<=k) (j:k+4*(l.length+(l.map sz).sum:Nat)<=1099511627776)
  (g:∀(i:Nat) e (k':Int),l[i]? =some e->0<=k'->k'+4*(1+sz e:Nat)<=1099511627776->f (l,k',(i:Int))=if e=d e k' then some (.inl (l,k'+(cD e:Int),((i+1:Nat):Int))) else some (.inr (.inr (-1))))
  (o:∀k',f (l,k',(l.length:Int))=some (.inr (.inl k'))):cd aK f (l,k,0)=some (if l=gU cD d l k then .inl (k+(je cD l:Int)) else .inr (-1)):=by
 rw[ans l (fun(k:Int) i=>(l,k,(i:Int))) (fun i k'=>0<=k'/\k'+4*((l.drop i).length+((l.drop i).map sz).sum:Nat)<=1099511627776) (fun _ (k:Int) e=>if e=d e k then some (k+(cD e:Int)) else none) (AN (-1)) (fun k=>wt k) ?_ ?_ ?_ (s:=k) ⟨n,by simpa using j⟩ ?_ fF]
 ·rw[YJ];by_cases h:l=gU cD d l k
  ·rw[ak h,ak h]
  ·rw[aq h,aq h]
 ·intro i k' e s' c b a;rw[drop_cons c] at b;simp only[OF,BY,zaS] at b;split at a
  ·rename_i hm;injection a with a;subst a;have hce:=m e;exact⟨by rw[g i e k' c b.1 (by omega),ak hm],by omega,by omega⟩
  ·cases a
 ·intro i k' e c b a;rw[drop_cons c] at b;simp only[OF,BY,zaS] at b;split at a
  ·cases a
  ·rename_i hm;rw[g i e k' c b.1 (by omega),aq hm]
 ·intro k' _;exact o k'
 ·rfl
theorem Gy {o:Option Int} {p:Prop} [Decidable p] {k:Int} {Y:Type} {f:Int->Option Y} {y:Option Y} (a:0<=k) (b:o=some (if p then k else -1)): o.ae (fun i=>au (bF i 0) y (f i))=if p then f k else y:=by rw[b,bw];by_cases h:p;rw[ak h,ak h,bi (dY a)];rw[aq h,aq h,bm eE]
theorem aff {α:Type}:∀l:List α,(l.map fun _=>0).sum=0
 |[]=>rfl
 |_::l=>by simp[aff l]
theorem aso {o:Option Int} {s:Nat} {k:Int} {f:Int->Option Bool} (a:o=some (t7 s k)):o.ae (fun i=>au (bF i 0) (some true) (f i))=if(s:Int)<=k then f (k - s) else some true:=by rw[a,bw];unfold t7;by_cases h:(s:Int)<=k;rw[ak h,ak h,bi dY];rw[aq h,aq h,bm eE]
theorem aoU (b:Bool):HY b b=false:=by cases b<;>rfl
theorem aoV (a:Int):ff a a=false:=tQ rfl
theorem SN:dh true=false:=rfl
theorem afX {α:Type} {xs:List α} {n:Nat} (h:xs.length=n):cM xs 0 n=some xs:=by subst h;exact mD xs
theorem sL {a b:Nat} (h:a=b):mz a b=some ():=ak h
theorem n5 {n m:Nat} (h:n=m):bj 0 n m=some ():=by subst h;exact de n
theorem ajV {α:Type} {l:List α} {i:Nat} {a b:α} (h:l[i]? =some a):(l.set i b)[i]? =some b:=zaH (Lx h)
theorem Yn {α:Type} {l:List α} {i:Nat} {a b:α} (h:l[i]? =some a):cP (bh l i b) i=some b:=ajV h
theorem aeE {α:Type} (l:List α) (i:Nat) (a b:α):bh (bh l i a) i b=bh l i b:=by simp[bh,List.set_set]
def j8 (l:U):Nat:=l.length
def UI (l:U):Bool:=decide (l.length<=9223372036854775807)
def uh:U->Option U:=fun(x:U)=>if j8 x<=1048576 then some x else none
def pI:U×U->Option Bool:=fun((x,y):U×U)=>if j8 x<=1048576 then some (decide (x=y)) else none
def kC (x:U×U×U):Nat:=match x with|(a0,a1,a2)=>j8 a0+j8 a1+j8 a2
def B1:(U×U×U)×(U×U×U)->Option Bool:=fun((x,y):(U×U×U)×(U×U×U))=>if kC x<=1048576 then some (decide (x=y)) else none
def ru (x:Int×Int):Nat:=match x with|(a0,a1)=>0
def Fj:(Int×Int)->Option (Int×Int):=fun(x:Int×Int)=>if ru x<=1048576 then some x else none
def BX:(Int×Int)×(Int×Int)->Option Bool:=fun((x,y):(Int×Int)×(Int×Int))=>if ru x<=1048576 then some (decide (x=y)) else none
def pC (l:List (Int×Int)):Nat:=l.length
def Nt (l:List (Int×Int)):Bool:=decide (l.length<=9223372036854775807)
def B8:(List (Int×Int))×Int->Option Int:=fun((x,k):(List (Int×Int))×Int)=>if Sa k/\Nt x=true then some (t7 (pC x) k) else none
def Ca:(List (Int×Int))->Option (List (Int×Int)):=fun(x:List (Int×Int))=>if pC x<=1048576 then some x else none
def BZ:(List (Int×Int))×(List (Int×Int))->Option Bool:=fun((x,y):(List (Int×Int))×(List (Int×Int)))=>if pC x<=1048576 then some (decide (x=y)) else none
def mT (x:Int×(List (Int×Int))):Nat:=match x with|(a0,a1)=>pC a1
def Jc (x:Int×(List (Int×Int))):Bool:=match x with|(a0,a1)=>Nt a1
def B9:(Int×(List (Int×Int)))×Int->Option Int:=fun((x,k):(Int×(List (Int×Int)))×Int)=>if Sa k/\Jc x=true then some (t7 (mT x) k) else none
def ug:(Int×(List (Int×Int)))->Option (Int×(List (Int×Int))):=fun(x:Int×(List (Int×Int)))=>if mT x<=1048576 then some x else none
def xA:(Int×(List (Int×Int)))×(Int×(List (Int×Int)))->Option Bool:=fun((x,y):(Int×(List (Int×Int)))×(Int×(List (Int×Int))))=>if mT x<=1048576 then some (decide (x=y)) else none
def dJ (l:U):Nat:=je (fun _=>1) l
def eB (l:U) (k:Int):U:=gU (fun _=>1) (fun _ k=>k) l k
def pJ:U×Int->Option (Int×U):=fun((x,k):U×Int)=>if 0<=k/\k+4*(j8 x:Nat)<=1099511627776 then some (k+(dJ x:Nat),eB x k) else none
def rC:U×Int->Option Int:=fun((x,k):U×Int)=>if 0<=k/\k+4*(j8 x:Nat)<=1099511627776 then some (if x=eB x k then k+(dJ x:Nat) else -1) else none
def z8 (x:Int×Int):Nat:=match x with|(a0,a1)=>1+1
def aaO (x:Int×Int) (k:Int):Int×Int:=match x with|(a0,a1)=>(k,k+1)
def uD (l:List (Int×Int)):Nat:=je z8 l
def vo (l:List (Int×Int)) (k:Int):List (Int×Int):=gU z8 aaO l k
def B4:(List (Int×Int))×Int->Option (Int×(List (Int×Int))):=fun((x,k):(List (Int×Int))×Int)=>if 0<=k/\k+4*(pC x:Nat)<=1099511627776 then some (k+(uD x:Nat),vo x k) else none
def B5:(Int×(List (Int×Int)))×Int->Option (Int×(List (Int×Int))):=fun(((a0,a1),k):(Int×(List (Int×Int)))×Int)=>if 0<=k/\k+4*(mT (a0,a1):Nat)<=1099511627776 then some (k+(uD a1:Nat),vo a1 (k)) else none
def Ob (NN:Nat):U->(Option U):=
 (fun(l0:U)=>
 (mr (aU (af l0)) (aU (af l0)) 8).ae (fun k1=>
 cT ((bj 0 k1 (af (dn k1 (0:Int)))).ae (fun _=>
 cd NN (fun(((l2,i3),l4):((U×Int)×U))=>
 au (bF i3 (aU (af l2)))
 ((cW l2 i3).ae (fun i5=>
 (dw i3 (af l4)).ae (fun k6=>
 (cP l4 (aE 0 k6)).ae (fun i7=>
 (bj 0 (af l4) (af (bh l4 (aE 0 k6) i5))).ae (fun _=>
 some (wt ((l2,cH .i64 i3 1),bh l4 (aE 0 k6) i5)))))))
 ((aB l4 (
 some (wt l4))).ae (fun l8=>
 some (AN l8))))
 ((l0,(0:Int)),dn k1 (0:Int))))
 (fun l9=>
 (d9 l9 (af l9)).ae (fun eV=>
 some eV))))
def UW (NN:Nat):(U×U)->(Option Bool):=
 (fun((l0,l1):(U×U))=>
 au (ff (aU (af l0)) (aU (af l1)))
 (some false)
 (cT (cd NN (fun((l2,l3,i4):(U×(U×Int)))=>
 au (bF i4 (aU (af l2)))
 ((cW l2 i4).ae (fun i5=>
 (cW l3 i4).ae (fun i6=>
 au (ff i5 i6)
 (some (AN (AN false)))
 (some (wt (l2,l3,cH .i64 i4 1))))))
 (some (AN (wt ()))))
 (l0,l1,(0:Int)))
 (fun _=>
 some true)))
def NY (NN:Nat):((U×(U×U))×(U×(U×U)))->(Option Bool):=
 (fun(((l0,l1,l2),l3,l4,l5):((U×(U×U))×(U×(U×U))))=>
 (pI (l0,l3)).ae (fun b6=>
 au (dh b6)
 (some false)
 ((pI (l1,l4)).ae (fun b7=>
 au (dh b7)
 (some false)
 ((pI (l2,l5)).ae (fun b8=>
 au (dh b8)
 (some false)
 (some true)))))))
def UY (NN:Nat):(Int×Int)->(Option (Int×Int)):=
 (fun((i0,i1):(Int×Int))=>
 some (i0,i1))
def NU (NN:Nat):((Int×Int)×(Int×Int))->(Option Bool):=
 (fun(((i0,i1),i2,i3):((Int×Int)×(Int×Int)))=>
 au (ff i0 i2)
 (some false)
 (au (ff i1 i3)
 (some false)
 (some true)))
def N7 (NN:Nat):((List (Int×Int))×Int)->(Option Int):=
 (fun((l0,i1):((List (Int×Int))×Int))=>
 au (bF (t5 .i64 i1 (aU (af l0))) (0:Int))
 (some ((-1:Int)))
 (some (t5 .i64 i1 (aU (af l0)))))
def N9 (NN:Nat):(List (Int×Int))->(Option (List (Int×Int))):=
 (fun(l0:(List (Int×Int)))=>
 (mr (aU (af l0)) (aU (af l0)) 16).ae (fun k1=>
 cT ((bj 0 k1 (af (dn k1 ((0:Int),(0:Int))))).ae (fun _=>
 cd NN (fun(((l2,i3),l4):(((List (Int×Int))×Int)×(List (Int×Int))))=>
 au (bF i3 (aU (af l2)))
 ((cW l2 i3).ae (fun(i5,i6)=>
 (Fj (i5,i6)).ae (fun(i7,i8)=>
 (dw i3 (af l4)).ae (fun k9=>
 (cP l4 (aE 0 k9)).ae (fun(eF,eK)=>
 (bj 0 (af l4) (af (bh l4 (aE 0 k9) (i7,i8)))).ae (fun _=>
 some (wt ((l2,cH .i64 i3 1),bh l4 (aE 0 k9) (i7,i8)))))))))
 ((aB l4 (
 some (wt l4))).ae (fun fe=>
 some (AN fe))))
 ((l0,(0:Int)),dn k1 ((0:Int),(0:Int)))))
 (fun dM=>
 (d9 dM (af dM)).ae (fun dX=>
 some dX))))
def UU (NN:Nat):((List (Int×Int))×(List (Int×Int)))->(Option Bool):=
 (fun((l0,l1):((List (Int×Int))×(List (Int×Int))))=>
 au (ff (aU (af l0)) (aU (af l1)))
 (some false)
 (cT (cd NN (fun((l2,l3,i4):((List (Int×Int))×((List (Int×Int))×Int)))=>
 au (bF i4 (aU (af l2)))
 ((cW l2 i4).ae (fun(i5,i6)=>
 (cW l3 i4).ae (fun(i7,i8)=>
 (BX ((i5,i6),i7,i8)).ae (fun b9=>
 au (dh b9)
 (some (AN (AN false)))
 (some (wt (l2,l3,cH .i64 i4 1)))))))
 (some (AN (wt ()))))
 (l0,l1,(0:Int)))
 (fun _=>
 some true)))
def N8 (NN:Nat):((Int×(List (Int×Int)))×Int)->(Option Int):=
 (fun(((i0,l1),i2):((Int×(List (Int×Int)))×Int))=>
 (B8 (l1,i2)).ae (fun i3=>
 au (bF i3 (0:Int))
 (some ((-1:Int)))
 (some i3)))
def Oa (NN:Nat):(Int×(List (Int×Int)))->(Option (Int×(List (Int×Int)))):=
 (fun((i0,l1):(Int×(List (Int×Int))))=>
 (Ca l1).ae (fun l2=>
 (d9 l2 (af l2)).ae (fun l3=>
 some (i0,l3))))
def NV (NN:Nat):((Int×(List (Int×Int)))×(Int×(List (Int×Int))))->(Option Bool):=
 (fun(((i0,l1),i2,l3):((Int×(List (Int×Int)))×(Int×(List (Int×Int)))))=>
 au (ff i0 i2)
 (some false)
 ((BZ (l1,l3)).ae (fun b4=>
 au (dh b4)
 (some false)
 (some true))))
def N4 (NN:Nat):(U×Int)->(Option (Int×U)):=
 (fun((l0,i1):(U×Int))=>
 cT (aB l0 (
 cd NN (fun(((i2,i3),l4):((Int×Int)×U))=>
 au (bF i3 (aU (af l4)))
 ((dw i3 (af l4)).ae (fun k5=>
 (cP l4 (aE 0 k5)).ae (fun i6=>
 (bj 0 (af l4) (af (bh l4 (aE 0 k5) i2))).ae (fun _=>
 some (wt ((cH .i64 i2 1,cH .i64 i3 1),bh l4 (aE 0 k5) i2))))))
 (some (AN (wt (i2,l4)))))
 ((i1,(0:Int)),l0)))
 (fun(i7,l8)=>
 (mz (af l8) (af l0)).ae (fun _=>
 some (i7,l8))))
def N2 (NN:Nat):((List (Int×Int))×Int)->(Option (Int×(List (Int×Int)))):=
 (fun((l0,i1):((List (Int×Int))×Int))=>
 cT (aB l0 (
 cd NN (fun(((i2,i3),l4):((Int×Int)×(List (Int×Int))))=>
 au (bF i3 (aU (af l4)))
 ((dw i3 (af l4)).ae (fun k5=>
 (cP l4 (aE 0 k5)).ae (fun(i6,i7)=>
 (dw i3 (af l4)).ae (fun k8=>
 (cP (bh l4 (aE 0 k5) (i2,i7)) (aE 0 k8)).ae (fun(i9,eF)=>
 (bj 0 (af l4) (af (bh (bh l4 (aE 0 k5) (i2,i7)) (aE 0 k8) (i9,cH .i64 i2 1)))).ae (fun _=>
 some (wt ((cH .i64 (cH .i64 i2 1) (1:Int),cH .i64 i3 1),bh (bh l4 (aE 0 k5) (i2,i7)) (aE 0 k8) (i9,cH .i64 i2 1)))))))))
 (some (AN (wt (i2,l4)))))
 ((i1,(0:Int)),l0)))
 (fun(eK,fe)=>
 (mz (af fe) (af l0)).ae (fun _=>
 some (eK,fe))))
def N3 (NN:Nat):((Int×(List (Int×Int)))×Int)->(Option (Int×(List (Int×Int)))):=
 (fun(((i0,l1),i2):((Int×(List (Int×Int)))×Int))=>
 aB l1 (
 (B4 (l1,i2)).ae (fun(i3,l4)=>
 (mz (af l4) (af l1)).ae (fun _=>
 some (i3,l4)))))
def NZ (NN:Nat):(U×Int)->(Option Int):=
 (fun((l0,i1):(U×Int))=>
 cT (cd NN (fun((l2,i3,i4):(U×(Int×Int)))=>
 au (bF i4 (aU (af l2)))
 ((cW l2 i4).ae (fun i5=>
 au (ff i5 i3)
 (some (AN (AN ((-1:Int)))))
 (some (wt (l2,cH .i64 i3 1,cH .i64 i4 1)))))
 (some (AN (wt i3))))
 (l0,i1,(0:Int)))
 (fun i6=>
 some i6))
theorem ajk (x y:U) (h:uh x=some y):Ob aK x=some y:=by simp only[uh] at h;split at h;rename_i hl;injection h with h;subst h;have hl:x.length<=1048576:=hl;simp only[Ob,HW (n:=af x) (by_:=8) (by simp only[af,fQ];omega),bw,D8,de,aB];rw[W0 x 0 (r:=wt x) ?_ ?_ (by omega)];simp only[ft,j9,bw];intro i e ys a hy b;simp only;rw[bm (qb a),eZ,a,bw];simp only[FI b,bw,uu,cP,b,tO,de,sB a (by omega)];rfl;simp only;rw[bi (vn x)];cases h
theorem ai2 (x:U×U) (y:Bool) (h:pI x=some y):UW aK x=some y:=by obtain⟨a,b⟩:=x;simp only[pI] at h;split at h;rename_i hl;rw[<-h];have hl:a.length<=1048576:=hl;exact ahQ a b (by omega);cases h
theorem ai5 (x:(U×U×U)×(U×U×U)) (y:Bool) (h:B1 x=some y):NY aK x=some y:=by obtain⟨⟨c,a,b⟩,b0,d,e⟩:=x;simp only[B1] at h;split at h;rename_i hl;rw[<-h];simp only[kC] at hl;simp only[NY,pI,ak (show j8 c<=1048576 by omega),ak (show j8 a<=1048576 by omega),ak (show j8 b<=1048576 by omega),bw];by_cases e0:c=b0<;>by_cases e1:a=d<;>by_cases e2:b=e<;>simp[HZ,dh,au, *];cases h
theorem ajh (x y:Int×Int) (h:Fj x=some y):UY aK x=some y:=by obtain⟨a0,a1⟩:=x;exact h
theorem aiZ (x:(Int×Int)×(Int×Int)) (y:Bool) (h:BX x=some y):NU aK x=some y:=by obtain⟨⟨b,a⟩,b0,c⟩:=x;rw[<-h];simp only[BX,NU,ru,zcd,if_true];by_cases e0:b=b0<;>by_cases e1:a=c<;>simp[HZ,dh,au, *]
theorem ajf (x:(List (Int×Int))×Int) (y:Int) (h:B8 x=some y):N7 aK x=some y:=by obtain⟨l,k⟩:=x;simp only[B8] at h;split at h;rename_i c;obtain⟨⟨k0,k1⟩,a⟩:=c;have a:=of_decide_eq_true a;rw[<-h];have hn:=nl l;simp only[N7];rw[BF];show _=some (t7 l.length k);by_cases b:(l.length:Int)<=k;rw[afm b,bi dY];rfl;rw[afl b,bm eE];cases h
theorem afo {l:List (Int×Int)} (h:pC l<=1048576):l.length<=1048576/\∀e∈l,ru e<=1048576:=by unfold pC at h;refine⟨by omega,fun e he=>?_⟩;show 0<=1048576;omega
theorem aji (x y:List (Int×Int)) (h:Ca x=some y):N9 aK x=some y:=by simp only[Ca] at h;split at h;rename_i hl;injection h with h;subst h;obtain⟨hl,hm⟩:=afo hl;simp only[N9,HW (n:=af x) (by_:=16) (by simp only[af,fQ];omega),bw,D8,de,aB];rw[W0 x (0,0) (r:=wt x) ?_ ?_ (by omega)];simp only[ft,j9,bw];rintro i ⟨a0,a1⟩ ys a hy b;simp only;rw[bm (qb a),eZ,a,bw];simp only[Fj,ak (hm _ (zad a)),FI b,bw,uu,cP,b,j9,tO,de,sB a (by omega)];rfl;simp only;rw[bi (vn x)];cases h
theorem ai0 (x:(List (Int×Int))×(List (Int×Int))) (y:Bool) (h:BZ x=some y):UU aK x=some y:=by
 obtain⟨a,b⟩:=x;simp only[BZ] at h;split at h
 ·rename_i hl;rw[<-h];obtain⟨hl,hm⟩:=afo hl;exact PH BX a b (fun e c b=>show(if ru e<=1048576 then some (decide (e=b)) else none)=_ from ak (hm e c)) (by omega)
 ·cases h
theorem ajg (x:(Int×(List (Int×Int)))×Int) (y:Int) (h:B9 x=some y):N8 aK x=some y:=by obtain⟨⟨a0,a⟩,k⟩:=x;simp only[B9] at h;split at h;rename_i d;obtain⟨⟨k0,k1⟩,b⟩:=d;simp only[Jc] at b;rw[<-h];simp only[N8];rw[szK (o:=B8 (a,k)) (s:=pC a) (ak ⟨by constructor<;>omega,b⟩)];by_cases c:((pC a:Nat):Int)<=k;rw[ak c];show _=some (t7 (pC a) k);rw[afm (by omega)];rw[aq c];show _=some (t7 (pC a) k);rw[afl (by omega)];cases h
theorem ajj (x y:Int×(List (Int×Int))) (h:ug x=some y):Oa aK x=some y:=by obtain⟨a0,a⟩:=x;simp only[ug] at h;split at h;rename_i hl;rw[<-h];simp only[mT] at hl;simp only[Oa,Ca,ak (show pC a<=1048576 by omega),bw,j9];cases h
theorem ai1 (x:(Int×(List (Int×Int)))×(Int×(List (Int×Int)))) (y:Bool) (h:xA x=some y):NV aK x=some y:=by obtain⟨⟨b,a⟩,b0,c⟩:=x;simp only[xA] at h;split at h;rename_i hl;rw[<-h];simp only[mT] at hl;simp only[NV,BZ,ak (show pC a<=1048576 by omega),bw];by_cases e0:b=b0<;>by_cases e1:a=c<;>simp[HZ,dh,au, *];cases h
theorem ahS (x:U) (h:j8 x<=1048576):pI (x,x)=some true:=by
 have:=show pI (x,x)=if j8 x<=1048576 then some (decide (x=x)) else none from rfl
 rw[this,ak h,decide_eq_true rfl]
theorem asC (x:U) (h:j8 x<=1048576):uh x=some x:=ak h
theorem ahR (x:Int×(List (Int×Int))) (h:mT x<=1048576):xA (x,x)=some true:=by
 have:=show xA (x,x)=if mT x<=1048576 then some (decide (x=x)) else none from rfl
 rw[this,ak h,decide_eq_true rfl]
theorem asB (x:Int×(List (Int×Int))) (h:mT x<=1048576):ug x=some x:=ak h
theorem IY (l:U):j8 l=l.length+(l.map (fun _=>0)).sum:=by simp[j8,aff]
theorem qB (l:U):dJ l<=4*j8 l:=by rw[IY];exact FL (fun _=>1) (fun _=>0) (fun e=>by omega) l
theorem aeU (l:U) (k:Int):j8 (eB l k)=j8 l:=by rw[IY,IY,eB,Bd,IW (fun _=>1) (fun _ k=>k) (fun _=>0) (fun _ _=>rfl)]
theorem Ph (l:U) (k:Int):dJ (eB l k)=dJ l:=IW (fun _=>1) (fun _ k=>k) (fun _=>1) (fun _ _=>rfl) l k
theorem aaS (l:U) (k:Int):eB (eB l k) k=eB l k:=SF (fun _=>1) (fun _ k=>k) (fun _ _=>rfl) (fun _ _=>rfl) l k
theorem Lr (l:U) (k:Int):(eB l k).length=l.length:=Bd _ _ _ _
theorem ajc (x:U×Int) (y:Int×U) (h:pJ x=some y):N4 aK x=some y:=by obtain⟨l,k⟩:=x;simp only[pJ] at h;split at h;rename_i c;obtain⟨f,b⟩:=c;rw[IY] at b;rw[<-h];simp only[N4,de,bw,aB];rw[Sz l (fun _=>1) (fun _=>0) (fun _ k=>k) k (r:=wt (k+(dJ l:Nat),eB l k)) (fun e=>by omega) f b ?_ ?_];rw[ft];simp only;rw[sL (show af (eB l k)=af l from Lr l k),bw];intro i e ys k' he hy a h0 hM;have g:cP ys i=some e:=a;simp only;rw[bm (qb a),sB a (by omega)];simp only[FI a,bw,uu,g,tO,de];have d:cH .i64 k' 1=k'+1:=fb;simp only[d];rfl;simp only;rw[bi (dY (by have:=Lr l k;have j:=nl (eB l k);unfold eB at this j;omega))];rfl;cases h
theorem ai7 (x:U×Int) (y:Int) (h:rC x=some y):NZ aK x=some y:=by obtain⟨l,k⟩:=x;simp only[rC] at h;split at h;rename_i d;obtain⟨f,c⟩:=d;rw[IY] at c;rw[<-h];simp only[NZ];rw[YK l (fun _=>1) (fun _=>0) (fun _ k=>k) k (fun e=>by omega) f c ?_ ?_];unfold eB dJ;by_cases a:l=gU (fun _=>1) (fun _ k=>k) l k;rw[ak a,ak a,ft];rw[aq a,aq a,AX];intro i e k' b h0 hM;simp only;rw[bm (qb b),eZ,b,bw];have g:cH .i64 k' 1=k'+1:=fb;rw[g,sB b (by omega)];by_cases a:e=k';rw[bi (tQ a),ak a];rfl;rw[bm (yT a),aq a];intro k';simp only;rw[bi (vn l)];cases h
theorem VL (x:Int×Int):z8 x<=4*(1+ru x):=by obtain⟨a0,a1⟩:=x;simp only[z8,ru];omega
theorem afn (l:List (Int×Int)):pC l=l.length+(l.map ru).sum:=by have:∀l:List (Int×Int),(l.map ru).sum=0:=(by intro l;induction l with|nil=>rfl|cons a l b=>simp[ru,b]);rw[this];rfl
theorem VJ (l:List (Int×Int)):uD l<=4*pC l:=by rw[afn];exact FL z8 ru VL l
theorem Sp (l:List (Int×Int)) (k:Int):(vo l k).length=l.length:=Bd _ _ _ _
theorem aja (x:(List (Int×Int))×Int) (y:Int×(List (Int×Int))) (h:B4 x=some y):N2 aK x=some y:=by obtain⟨l,k⟩:=x;simp only[B4] at h;split at h;rename_i d;obtain⟨f,b⟩:=d;rw[afn] at b;rw[<-h];simp only[N2,de,bw,aB];rw[Sz l z8 ru aaO k (r:=wt (k+(uD l:Nat),vo l k)) VL f b ?_ ?_];rw[ft];simp only;rw[sL (show af (vo l k)=af l from Sp l k),bw];rintro i ⟨m,c⟩ ys k' he hy a h0 e;have n:cP ys i=some (m,c):=a;simp only;rw[bm (qb a),sB a (by omega)];simp only[FI a,bw,uu,n,tO,de];simp only[ru] at e;have g:cH .i64 (k') 1=k'+1:=fb;have j:cH .i64 (k'+1) 1=k'+1+1:=fb;simp only[g,j,bw,Yn a,aeE,tO,de];refine congrArg some (congrArg wt (Prod.ext (Prod.ext ?_ rfl) rfl));simp only[z8];omega;simp only;rw[bi (dY (by have:=Sp l k;have o:=nl (vo l k);unfold vo at this o;omega))];rfl;cases h
theorem ajb (x:(Int×(List (Int×Int)))×Int) (y:Int×(List (Int×Int))) (h:B5 x=some y):N3 aK x=some y:=by obtain⟨⟨a0,a⟩,k⟩:=x;simp only[B5] at h;split at h;rename_i b;obtain⟨hk,d⟩:=b;simp only[mT] at d;have VK:=VJ a;rw[<-h];have c:B4 (a,k)=some (k+(uD a:Nat),vo a (k)):=ak ⟨by omega,by omega⟩;simp only[N3,de,bw,c,sL (show af (vo a (k))=af a from Sp a (k)),aB];cases h
def Yl (r c:Nat) (M:Nat->Nat->Int):U:=(zai (r*c)).map fun n=>M (n/c) (n%c)
def ofD (c:Nat) (l:U):Nat->Nat->Int:=fun i j=>l.getD (i*c+j) 0
theorem anz {i n:Nat} (h:i<n):bF (i:Int) (n:Int)=true:=eE
theorem Lw {i n:Nat} (h:n<=i):bF (i:Int) (n:Int)=false:=dY
theorem Jy {i:Nat} (h:i<=1048577:=by omega):cH .i64 (i:Int) 1=((i+1:Nat):Int):=by rw[fb];omega
def ph (p:Int):Prop:=2<=p/\p<=1000003
instance (p:Int):Decidable (ph p):=inferInstanceAs (Decidable (2<=p/\p<=1000003))
def sf (p x:Int):Prop:=0<=x/\x<p
instance (p x:Int):Decidable (sf p x):=inferInstanceAs (Decidable (0<=x/\x<p))
theorem PG {p:Int} (b:ph p) (a:Int):sf p (a%p):=⟨zaU _ (by have:=b.1;omega),zaD _ (by have:=b.1;omega)⟩
theorem sf.le {p x:Int} (h:sf p x):0<=x/\x<=p:=⟨h.1,Int.le_of_lt h.2⟩
theorem sf.s {p x:Int} (a:ph p) (h:sf p x):0<=x/\x<=1000003000000:=⟨h.1,by have:=h.2;have:=a.2;omega⟩
def qZ (p:Int) (r c:Nat) (M:Nat->Nat->Int):Prop:=∀i,i<r->∀j,j<c->sf p (M i j)
def td (p:Int) (l:U):Prop:=∀x∈l,sf p x
instance (p:Int) (l:U):Decidable (td p l):=inferInstanceAs (Decidable (∀x∈l,sf p x))
def Bc (x:Int×Int×U):Prop:=(0<=x.1/\x.1<=4096)/\(0<=x.2.1/\x.2.1<=4096)/\(x.2.2.length:Int)=x.1*x.2.1/\x.2.2.length<=1048576
instance (x:Int×Int×U):Decidable (Bc x):=by unfold Bc;infer_instance
def iL:Int×Int×Int->Option Bool:=fun((a,b,c):Int×Int×Int)=>some (decide (b<=a/\a<=c))
def nj (n:Int) (e:Int×Int):Bool:=decide ((0<=e.1/\e.1<=n - 1)/\(0<=e.2/\e.2<=n - 1))
def rU (n:Int) (es:List (Int×Int)):Bool:=decide (0<=n/\n<=10)&&decide (es.length<=10)&&es.all (nj n)
def Cc:Int×List (Int×Int)->Option Bool:=fun((n,es):Int×List (Int×Int))=>some (rU n es)
def BP:Int×List (Int×Int)->Option Bool:=fun((n,es):Int×List (Int×Int))=>some (rU n es)
def Oi (NN:Nat):(Int×(Int×Int))->(Option Bool):=
 (fun((i0,i1,i2):(Int×(Int×Int)))=>
 au (gO i1 i0)
 (some (gO i0 i2))
 (some false))
def Od (NN:Nat):(Int×(List (Int×Int)))->(Option Bool):=
 (fun((i0,l1):(Int×(List (Int×Int))))=>
 (iL (i0,(0:Int),(10:Int))).ae (fun b2=>
 au (dh b2)
 (some false)
 (au (bF (10:Int) (aU (af l1)))
 (some false)
 (cT (cd NN (fun(((l3,i4,i5),i6,l7):(((List (Int×Int))×(Int×Int))×(Int×(List (Int×Int)))))=>
 au (bF i5 i4)
 ((cW l3 i5).ae (fun(i8,i9)=>
 (iL (i8,(0:Int),t5 .i64 i6 1)).ae (fun nM=>
 au (dh nM)
 (some (AN (AN false)))
 ((iL (i9,(0:Int),t5 .i64 i6 1)).ae (fun zQ=>
 au (dh zQ)
 (some (AN (AN false)))
 (some (wt ((l3,i4,cH .i64 i5 1),i6,l7))))))))
 (some (AN (wt ()))))
 ((l1,aU (af l1),(0:Int)),i0,l1))
 (fun _=>
 some true)))))
def NE (NN:Nat):(Int×(List (Int×Int)))->(Option Bool):=
 (fun((i0,l1):(Int×(List (Int×Int))))=>
 au (bF i0 (0:Int))
 (some false)
 (au (bF (10:Int) i0)
 (some false)
 (au (bF (10:Int) (aU (af l1)))
 (some false)
 (cT (cd NN (fun(((l2,i3,i4),i5,l6):(((List (Int×Int))×(Int×Int))×(Int×(List (Int×Int)))))=>
 au (bF i4 i3)
 ((cW l2 i4).ae (fun(i7,i8)=>
 au (bF i7 (0:Int))
 (some (AN (AN false)))
 (au (bF i8 (0:Int))
 (some (AN (AN false)))
 (au (gO i5 i7)
 (some (AN (AN false)))
 (au (gO i5 i8)
 (some (AN (AN false)))
 (some (wt ((l2,i3,cH .i64 i4 1),i5,l6))))))))
 (some (AN (wt ()))))
 ((l1,aU (af l1),(0:Int)),i0,l1))
 (fun _=>
 some true)))))
theorem aju (x:Int×Int×Int) (y:Bool) (h:iL x=some y):Oi aK x=some y:=by obtain⟨a,b,c⟩:=x;rw[<-h];simp only[iL,Oi,gO];by_cases d:b<=a<;>simp[d,au]
def ri (n:Int):List (Int×Int)->Unit⊕Bool
 |[]=>.inl ()
 |e::es=>if nj n e=true then ri n es else .inr false
theorem ac5 (n:Int) (es:List (Int×Int)):ri n es=if es.all (nj n)=true then .inl () else .inr false:=by induction es with|nil=>rfl|cons e es b=>simp only[ri];by_cases h:nj n e=true;have a:(e::es).all (nj n)=es.all (nj n):=(by simp[h]);rw[ak h,b,a];have a:(e::es).all (nj n)=false:=(by simp[h]);rw[aq h,a];rfl
theorem ajn (x:Int×List (Int×Int)) (y:Bool) (h:Cc x=some y):Od aK x=some y:=by obtain⟨n,es⟩:=x;rw[<-h];simp only[Cc,Od,iL,bw,rU];by_cases c:0<=n/\n<=10;rw[bi (Bf c)];by_cases l:es.length<=10;rw[bi (dY (by have:=nl es;omega))];rw[aaB (r:=ri n es) (fun k s=>∃(i:Nat) (j:Int),j=(i:Int)/\i<=es.length/\k=es.length - i/\ri n es=ri n (es.drop i)/\s=((es,aU (af es),j),n,es)) ?_ es.length _ ⟨0,0,rfl,by omega,by omega,by simp,rfl⟩ aK fF];rw[ac5];by_cases d:es.all (nj n)=true;rw[ak d,ft];simp[c,l];simpa using d;rw[aq d,AX];simp[c,l];simpa using d;rintro k s ⟨i,_,rfl,hi,rfl,hr,rfl⟩;simp only;by_cases o:i<es.length;obtain⟨e,m⟩:∃e,es[i]? =some e:=⟨_,co o⟩;obtain⟨u,v⟩:=e;have hd:=drop_cons m;rw[bm (eE (by have:=nl es;omega)),eZ,m,bw];simp only[iL,bw,BF (a:=n) (b:=1) (by omega) (by omega)];rw[hr,hd,ri];by_cases g:0<=u/\u<=n - 1;rw[bi (Bf g)];by_cases f:0<=v/\v<=n - 1;right;refine⟨es.length - (i+1),((es,aU (af es),((i+1:Nat):Int)),n,es),by omega,?_,i+1,_,rfl,by omega,rfl,?_,rfl⟩;rw[bi (Bf f),fb];rfl;rw[ak (by simp[nj,g,f])];left;rw[bm (H9 f),aq (by simp[nj];omega)];left;rw[bm (H9 g),aq (by simp[nj];omega)];left;have p:i=es.length:=(by omega);subst p;rw[bi (dY (by have:=nl es;omega)),hr];simp[ri];rw[bm (eE (by have:=nl es;omega))];simp[l];rw[bm (H9 c)];simp[c]
theorem aiF (x:Int×List (Int×Int)) (y:Bool) (h:BP x=some y):NE aK x=some y:=by obtain⟨n,es⟩:=x;rw[<-h];simp only[BP,NE,rU];by_cases l:n<0;rw[bm (by simp[bF,l])];simp;omega;rw[bi (by simp[bF];omega)];by_cases g:10<n;rw[bm (by simp[bF,g])];simp;omega;rw[bi (by simp[bF];omega)];by_cases b:es.length<=10;rw[bi (dY (by have:=nl es;omega))];rw[aaB (r:=ri n es) (fun k s=>∃(i:Nat) (j:Int),j=(i:Int)/\i<=es.length/\k=es.length - i/\ri n es=ri n (es.drop i)/\s=((es,aU (af es),j),n,es)) ?_ es.length _ ⟨0,0,rfl,by omega,by omega,by simp,rfl⟩ aK fF];rw[ac5];by_cases a:es.all (nj n)=true;rw[ak a,ft];simp[b];exact⟨by omega,by simpa using a⟩;rw[aq a,AX];simp[b];intro _ _;simpa using a;rintro k s ⟨i,_,rfl,hi,rfl,hr,rfl⟩;simp only;by_cases m:i<es.length;obtain⟨e,c⟩:∃e,es[i]? =some e:=⟨_,co m⟩;obtain⟨u,v⟩:=e;have hd:=drop_cons c;rw[bm (eE (by have:=nl es;omega)),eZ,c,bw];rw[hr,hd,ri];simp only;by_cases o:u<0;left;rw[bm (by simp[bF,o]),aq (by simp[nj];omega)];rw[bi (by simp[bF];omega)];by_cases p:v<0;left;rw[bm (by simp[bF,p]),aq (by simp[nj];omega)];rw[bi (by simp[bF];omega)];by_cases f:n<=u;left;rw[bm (by simp[gO,f]),aq (by simp[nj];omega)];rw[bi (by simp[gO];omega)];by_cases d:n<=v;left;rw[bm (by simp[gO,d]),aq (by simp[nj];omega)];rw[bi (by simp[gO];omega)];right;refine⟨es.length - (i+1),((es,aU (af es),((i+1:Nat):Int)),n,es),by omega,?_,i+1,_,rfl,by omega,rfl,?_,rfl⟩;rw[fb];rfl;rw[ak (by simp[nj];omega)];left;have q:i=es.length:=(by omega);subst q;rw[bi (dY (by have:=nl es;omega)),hr];simp[ri];rw[bm (eE (by have:=nl es;omega))];simp[b]
def rK (n:Int) (i:Nat):Bool:=decide ((i:Int)*i<=n)&&decide (n%(i:Int)=0)
def gS (n:Int):Bool:=decide (2<=n/\n<=1000003)&& !((zaV 2 999).any (rK n))
def xB:Int->Option Bool:=fun(n:Int)=>some (gS n)
def xv:Int->Option Bool:=fun(n:Int)=>some (gS n)
def inB (m:Int) (v:Int):Bool:=decide (0<=v/\v<m)
def L5 (m:Int) (l:U):Bool:=l.all (inB m)
def Oe (NN:Nat):Int->(Option Bool):=
 (fun(i0:Int)=>
 cT (cd NN (fun((i1,i2):(Int×Int))=>
 au (gO (mP .i64 i2 i2) i1)
 (au (gO i1 (1000003:Int))
 ((w6 i1 i2).ae (fun i3=>
 au (bR i3 (0:Int))
 (some (AN (AN false)))
 (some (wt (i1,cH .i64 i2 1)))))
 (some (AN (wt i1))))
 (some (AN (wt i1))))
 (i0,(2:Int)))
 (fun i4=>
 (iL (i4,(2:Int),(1000003:Int))).ae (fun b5=>
 some b5)))
def NF (NN:Nat):Int->(Option Bool):=
 (fun(i0:Int)=>
 au (bF i0 (2:Int))
 (some false)
 (au (bF (1000003:Int) i0)
 (some false)
 (cT (cd NN (fun((i1,i2):(Int×Int))=>
 au (gO (mP .i64 i2 i2) i1)
 ((w6 i1 i2).ae (fun i3=>
 au (bR i3 (0:Int))
 (some (AN (AN false)))
 (some (wt (i1,cH .i64 i2 1)))))
 (some (AN (wt ()))))
 (i0,(2:Int)))
 (fun _=>
 some true))))
theorem pf {a b:Int} (c: -9223372036854775808<=a*b:=by omega) (d:a*b<=9223372036854775807:=by omega):mP .i64 a b=a*b:=UK c d
theorem Iu {n:Int} {i:Nat} (hn:0<=n:=by omega) (hi:0<i:=by omega):w6 n (i:Int)=some (n%(i:Int)):=by unfold w6;rw[aq (by omega),Int.tmod_eq_emod_of_nonneg hn]
theorem T4 {i j:Nat} (h:i<=j):(i:Int)*i<=(j:Int)*j:=by have:=zbp h h;exact_mod_cast this
theorem Wp {X Y:Type} {f:X->Option (X⊕(Y⊕Bool))} (n:Int) (a:Nat->X) (r:Y) (hn:n<=1000003)
  (m:∀i:Nat,2<=i->i<=1001->(i:Int)*i<=n->n%(i:Int)=0->f (a i)=some (.inr (.inr false)))
  (q:∀i:Nat,2<=i->i<=1001->(i:Int)*i<=n->n%(i:Int)≠0->f (a i)=some (.inl (a (i+1))))
  (e:∀i:Nat,2<=i->i<=1001->¬(i:Int)*i<=n->f (a i)=some (.inr (.inl r))) {g:X} (hx:g=a 2):
  cd aK f g=some (if(zaV 2 999).any (rK n)=true then .inr false else .inl r):=by
 subst hx;have k:∀(d i:Nat),2<=i->i+d=1001->∀N,d<N->cd N f (a i)=some (if(zaV i d).any (rK n)=true then .inr false else .inl r):=by
  intro d;induction d with
  |zero=>
   intro i c hd N l;obtain⟨N,rfl⟩:∃M,N=M+1:=⟨N - 1,by omega⟩;have:i=1001:=by omega
   subst this;rw[cd,e 1001 (by omega) (by omega) (by omega)];rfl
  |succ d p=>
   intro i c hd N l;obtain⟨N,rfl⟩:∃M,N=M+1:=⟨N - 1,by omega⟩;rw[List.range'_succ,zbw];by_cases b:(i:Int)*i<=n
   ·by_cases hm:n%(i:Int)=0
    ·rw[cd,m i c (by omega) b hm];simp[rK,b,hm]
    ·rw[cd,q i c (by omega) b hm];simp only
     rw[p (i+1) (by omega) (by omega) N (by omega),show rK n i=false by simp[rK,hm],zb0]
   ·rw[cd,e i c (by omega) b];have:(zaV (i+1) d).any (rK n)=false:=by
     rw[zbD];intro j o;have:=(List.mem_range'_1.1 o).1;have:=T4 (show i<=j by omega);simp only[rK,By,decide_eq_true_eq,not_and];intro h;omega
    simp only
    rw[this];simp[rK,b]
 exact k 999 2 (by omega) (by omega) aK fF
theorem EM {i:Nat} (h:i<=1001):0<=(i:Int)*i/\(i:Int)*i<=1002001:=by have h1:=T4 h;have h0:=T4 (zcd i);omega
theorem ajo (x:Int) (y:Bool) (h:xB x=some y):Oe aK x=some y:=by rw[<-h];simp only[xB,Oe];by_cases hx:x<=1000003;(·rw[Wp x (fun i=>(x,(i:Int))) x hx ?_ ?_ ?_ ?_];by_cases hd:(zaV 2 999).any (rK x)=true;rw[ak hd,AX,gS,hd];simp;rw[aq hd,ft,gS];simp only[iL,bw];simp[hd];(all_goals try simp only);intro i c a b hm;have d:=EM a;rw[pf,bm (yL b),bm (yL hx),Iu,bw,bm (Al hm)];intro i c a b hm;have d:=EM a;rw[pf,bm (yL b),bm (yL hx),Iu,bw,bi (xT hm),fb];rfl;intro i c a b;have d:=EM a;rw[pf,bi Lp];rfl);rw[iG (fun i=>(x,(i:Int)+2)) (r:=wt x) 0 (fun j hj=>by omega) ?_ ?_ fF];rw[ft,gS];simp only[iL,bw];have:¬(2<=x/\x<=1000003):=(by omega);simp[this];simp only;rw[bm (yL (by rw[pf];omega)),bi Lp];rfl
theorem aiG (x:Int) (y:Bool) (h:xv x=some y):NF aK x=some y:=by rw[<-h];simp only[xv,NF];by_cases c:x<2;rw[bm (eE c),gS,decide_eq_false (by omega)];rfl;rw[bi dY];by_cases hx:1000003<x;rw[bm (eE hx),gS,decide_eq_false (by omega)];rfl;rw[bi dY];rw[Wp x (fun i=>(x,(i:Int))) () (by omega) ?_ ?_ ?_ ?_];have hr:(2<=x/\x<=1000003):=(by omega);by_cases hd:(zaV 2 999).any (rK x)=true;rw[ak hd,AX,gS,hd];simp;rw[aq hd,ft,gS];simp[hd,hr];(all_goals try simp only);intro i c a b hm;have d:=EM a;rw[pf,bm (yL b),Iu,bw,bm (Al hm)];intro i c a b hm;have d:=EM a;rw[pf,bm (yL b),Iu,bw,bi (xT hm),fb];rfl;intro i c a b;have d:=EM a;rw[pf,bi Lp];rfl
theorem jR {m:Int} (h:gS m=true):2<=m/\m<=1000003:=by simp only[gS,By,decide_eq_true_eq] at h;exact h.1
def eo:U->Int
 |[]=>1
 |x::l=>x*eo l
def zV (kS:Int) (_:Nat) (a x:Int):Int:=min (a*x) (kS+1)
def zU (kS:Int) (l:U):Int:=uI (zV kS) 0 1 l
def arS (x:Int):Bool:=decide (0<=x/\x<=1048576)
def vG:U×Int->Option Int:=fun((l,kS):U×Int)=>if(0<=kS/\kS<=1048576)/\l.length<=1048576/\l.all arS=true then some (zU kS l) else none
def Oq (NN:Nat):(U×Int)->(Option Int):=
 (fun((l0,i1):(U×Int))=>
 cT (cd NN (fun((i2,i3,l4,i5,i6):(Int×(Int×(U×(Int×Int)))))=>
 au (bF i6 i5)
 ((cW l4 i6).ae (fun i7=>
 some (wt (i2,oE (mP .i64 i3 i7) (cH .i64 i2 1),l4,i5,cH .i64 i6 1))))
 (some (AN (wt i3))))
 (i1,(1:Int),l0,aU (af l0),(0:Int)))
 (fun i8=>
 some i8))
theorem SK {a x A B:Int} (c:0<=a) (e:a<=A) (b:0<=x) (d:x<=B):0<=a*x/\a*x<=A*B:= ⟨zbq c b,zax e d b (by omega)⟩
theorem ajE (x:U×Int) (y:Int) (h:vG x=some y):Oq aK x=some y:=by obtain⟨l,b⟩:=x;simp only[vG] at h;split at h;(·rename_i d;obtain⟨YZ,hl,f⟩:=d;rw[<-h];simp only[Oq];rw[anr l (fun(a:Int) i=>(b,a,l,aU (af l),(i:Int))) (fun _ a=>0<=a/\a<=b+1) (zV b) (fun a=>wt a) ?_ ?_ (s:=1) ⟨by omega,by omega⟩ ?_ fF];rfl;(all_goals try simp only);intro i a x hx e;have c:=of_decide_eq_true (zaP.1 f x (zad hx));obtain⟨b1,b2⟩:=SK e.1 (show a<=1048577 by omega) c.1 c.2;rw[bm (qb hx),eZ,hx,bw,pf,fb (a:=b) (by omega) (by omega),HV,sB hx (by omega)];refine⟨rfl,?_⟩;unfold zV;omega;intro a _;rw[bi (vn l)];rfl);cases h
theorem Ik:∀{l:U},(∀x∈l,1<=x)->1<=eo l
 |[],_=>by simp[eo]
 |x::l,h=>by have b:=h x zaE;have a:=Ik (l:=l) (fun x hx=>h x (zaq _ hx));have:=zax b a (by omega) (by omega);simpa[eo] using this
theorem JJ {b:Int} (g:0<=b):∀(l:U) (i:Nat) (a:Int),(∀x∈l,1<=x)->1<=a->a<=b+1->uI (zV b) i a l=min (a*eo l) (b+1)
 |[],i,a,_,_,h2=>by simp only[uI,eo,zbS];omega
 |x::l,i,a,h,h1,h2=>by have hx:=h x zaE;have d:=Ik (l:=l) (fun x hx=>h x (zaq _ hx));have hax:=zax h1 hx (by omega) (by omega);rw[uI,JJ g l (i+1) _ (fun x hx=>h x (zaq _ hx)) (by unfold zV;omega) (by unfold zV;omega),eo,<-zaT];unfold zV;generalize a*x=c at*;by_cases f:c<=b+1;rw[zbT f];have e:min c (b+1)=b+1:=(by omega);rw[e];have k1:=zaj d (show 0<=b+1 by omega);have k2:=zaj d (show 0<=c by omega);omega
def cq (l:U) (v:Int):Nat:=l.findIdx fun a=>decide (a=v)
def uG (l:U) (v:Int):Int:=if cq l v<l.length then(cq l v:Int) else -1
def uj:U×Int->Option Int:=fun(x:U×Int)=>if x.1.length<=1048576 then some (uG x.1 x.2) else none
def zF:U×Int->Option Bool:=fun(x:U×Int)=>if x.1.length<=1048576 then some (decide (x.2∈x.1)) else none
def CA (L D:U) (j:Nat):Prop:=(0<=L.getD j 0/\L.getD j 0<=99)/\(1<=D.getD j 0/\D.getD j 0<=8)/\L.getD j 0∉L.take j
instance (L D:U) (j:Nat):Decidable (CA L D j):=by unfold CA;infer_instance
def m6 (L D:U):Bool:=decide (L.length<=12)&&(decide (L.length=D.length)&&decide (∀j,j<L.length->CA L D j))
def iB (L D:U):Int:=if m6 L D=true/\eo D<=4096 then eo D else -1
def Cf:U×U->Option Bool:=fun(x:U×U)=>if x.1.length<=1048576/\x.2.length<=1048576 then some (m6 x.1 x.2) else none
def vD:U×U×U->Option Int:=fun(x:U×U×U)=>if x.1.length<=1048576/\x.2.1.length<=1048576 then some (iB x.1 x.2.1) else none
def zE:U×U×U->Option Int:=vD
def O5 (m:Int) (D:U) (R:List U) (j:Nat):Prop:=((R.getD j []).length:Int)=D.getD j 0/\L5 m (R.getD j [])=true
instance (m:Int) (D:U) (R:List U) (j:Nat):Decidable (O5 m D R j):=by unfold O5;infer_instance
def O4 (x:(U×U×U)×Int×List U):Bool:=
 decide (0<=iB x.1.1 x.1.2.1)&&(decide (1<=x.2.1/\x.2.1<=12)&&(decide (x.2.2.length=x.1.2.1.length)&&decide (∀j,j<x.2.2.length->O5 x.2.1 x.1.2.1 x.2.2 j)))
def JK (x:(U×U×U)×Int×List U):Prop:=(x.1.1.length<=1048576/\x.1.2.1.length<=1048576)/\x.2.2.length<=1048576/\∀l∈x.2.2,l.length<=1048576
instance (x:(U×U×U)×Int×List U):Decidable (JK x):=by unfold JK;infer_instance
def On (NN:Nat):(U×Int)->(Option Int):=
 (fun((l0,i1):(U×Int))=>
 cT (cd NN (fun((i2,l3,i4,i5):(Int×(U×(Int×Int))))=>
 au (bF i5 i4)
 ((cW l3 i5).ae (fun i6=>
 au (bR i6 i2)
 (some (AN (AN i5)))
 (some (wt (i2,l3,i4,cH .i64 i5 1)))))
 (some (AN (wt ()))))
 (i1,l0,aU (af l0),(0:Int)))
 (fun _=>
 some ((-1:Int))))
def Om (NN:Nat):(U×U)->(Option Bool):=
 (fun((l0,l1):(U×U))=>
 au (bF (12:Int) (aU (af l0)))
 (some false)
 (au (ff (aU (af l0)) (aU (af l1)))
 (some false)
 (cT (cd NN (fun((l2,l3,l4,i5,i6):(U×(U×(U×(Int×Int)))))=>
 au (bF i6 i5)
 ((cW l4 i6).ae (fun i7=>
 (iL (i7,(0:Int),(99:Int))).ae (fun b8=>
 au (dh b8)
 (some (AN (AN false)))
 ((cW l3 i6).ae (fun i9=>
 (iL (i9,(1:Int),(8:Int))).ae (fun nM=>
 au (dh nM)
 (some (AN (AN false)))
 ((iY (0:Int) i6 (af l2)).ae (fun(jv,lI)=>
 (uj (iy l2 jv lI,i7)).ae (fun mn=>
 au (gO (0:Int) mn)
 (some (AN (AN false)))
 (some (wt (l2,l3,l4,i5,cH .i64 i6 1))))))))))))
 (some (AN (wt ()))))
 (l0,l1,l0,aU (af l0),(0:Int)))
 (fun _=>
 some true))))
def Oh (NN:Nat):(U×(U×U))->(Option Int):=
 (fun((l0,l1,l2):(U×(U×U)))=>
 (Cf (l0,l1)).ae (fun b3=>
 au (dh b3)
 (some ((-1:Int)))
 ((vG (l1,(4096:Int))).ae (fun i4=>
 au (bF (4096:Int) i4)
 (some ((-1:Int)))
 (some i4)))))
def NL (NN:Nat):(U×Int)->(Option Bool):=
 (fun((l0,i1):(U×Int))=>
 cT (cd NN (fun((i2,l3,i4,i5):(Int×(U×(Int×Int))))=>
 au (bF i5 i4)
 ((cW l3 i5).ae (fun i6=>
 au (bR i2 i6)
 (some (AN (AN true)))
 (some (wt (i2,l3,i4,cH .i64 i5 1)))))
 (some (AN (wt ()))))
 (i1,l0,aU (af l0),(0:Int)))
 (fun _=>
 some false))
def NI (NN:Nat):(U×(U×U))->(Option Int):=
 (fun((l0,l1,l2):(U×(U×U)))=>
 au (bF (12:Int) (aU (af l0)))
 (some ((-1:Int)))
 (au (ff (aU (af l0)) (aU (af l1)))
 (some ((-1:Int)))
 (cT (cd NN (fun(((i3,l4,i5,i6),l7,l8,l9):((Int×(U×(Int×Int)))×(U×(U×U))))=>
 au (bF i6 i5)
 ((cW l4 i6).ae (fun eF=>
 au (bF eF (0:Int))
 (some (AN (AN ((-1:Int)))))
 (au (bF (99:Int) eF)
 (some (AN (AN ((-1:Int)))))
 ((iY (0:Int) i6 (af l7)).ae (fun(jv,lI)=>
 (zF (iy l7 jv lI,eF)).ae (fun FC=>
 au (FC)
 (some (AN (AN ((-1:Int)))))
 ((cW l8 i6).ae (fun hZ=>
 au (bF hZ (1:Int))
 (some (AN (AN ((-1:Int)))))
 (au (bF (8:Int) hZ)
 (some (AN (AN ((-1:Int)))))
 (au (bF (4096:Int) (mP .i64 i3 hZ))
 (some (AN (AN ((-1:Int)))))
 (some (wt ((mP .i64 i3 hZ,l4,i5,cH .i64 i6 1),l7,l8,l9)))))))))))))
 (some (AN (wt i3))))
 (((1:Int),l0,aU (af l0),(0:Int)),l0,l1,l2))
 (fun iU=>
 some iU))))
theorem Uf (P:Nat->Prop) [DecidablePred P]:∀c:Nat,∃n,n<=c/\(∀j,j<n->P j)/\(n=c\/¬P n)
 |0=>⟨0,zac 0,fun j b=>absurd b (zbU j),.inl rfl⟩
 |c+1=>by obtain⟨n,h1,d,a⟩:=Uf P c;by_cases h:P n;rcases a with a|a;subst a;refine⟨n+1,zac _,fun j b=>?_,.inl rfl⟩;by_cases e:j=n;subst e;exact h;exact d j (by omega);exact absurd h a;exact⟨n,by omega,d,.inr h⟩
theorem getD_some {α:Type} {l:List α} {j:Nat} (d:α) (h:j<l.length):l[j]? =some (l.getD j d):=by simp[zb8,h]
theorem yN {α:Type} {l:List α} {j:Nat} (h:j<l.length):bF (j:Int) (aU (af l))=true:=anz h
theorem LR {l:U} {v:Int} {j:Nat} (h:j<cq l v):l[j]? ≠some v:=by intro e;have a:j<l.length:=(IN.1 e).1;have:=List.not_of_lt_findIdx h;rw[co a] at e;simp[zbh e] at this
theorem Ii {l:U} {v:Int} (h:cq l v<l.length):l[cq l v]? =some v:=by have:=List.findIdx_getElem (w:=h);rw[co h];exact congrArg some (of_decide_eq_true this)
theorem LS (l:U) (v:Int):cq l v<=l.length:=List.findIdx_le_length
theorem PQ (l:U) (v:Int):gO 0 (uG l v)=decide (v∈l):=by unfold uG gO;by_cases h:cq l v<l.length;rw[ak h,decide_eq_true (by omega),decide_eq_true];exact zad (Ii h);rw[aq h,decide_eq_false (by omega),decide_eq_false];intro hm;obtain⟨i,a,e⟩:=zar.1 hm;have:=LS l v;exact LR (show i<cq l v by omega) (by rw[co a,e])
theorem ajC (x:U×Int) (y:Int) (h:uj x=some y):On aK x=some y:=by
 obtain⟨l,v⟩:=x;simp only[uj] at h;split at h
 ·rename_i hl;rw[<-h];simp only[On];have hp:=LS l v;rw[iG (fun i=>(v,l,aU (af l),(i:Int))) (r:=if cq l v<l.length then AN (cq l v:Int) else wt ()) (cq l v) ?_ ?_ ?_ fF]
  ·unfold uG;by_cases h:cq l v<l.length
   ·rw[ak h,ak h];rfl
   ·rw[aq h,aq h];rfl
  ·intro j b;simp only
   have a:j<l.length:=by omega
   rw[bm (yN a),eZ,getD_some 0 a,bw,bi (xT (fun e=>LR b (by rw[getD_some 0 a,e])))];simp only[Jy (show j<=1048577 by omega)]
  ·simp only
   by_cases h:cq l v<l.length
   ·rw[ak h,bm (yN h),eZ,Ii h,bw,bm (Al rfl)]
   ·rw[aq h,bi (show bF _ (aU (af l))=false from Lw (by show l.length<=_;omega))]
  ·rfl
 ·cases h
theorem aiR (x:U×Int) (y:Bool) (h:zF x=some y):NL aK x=some y:=by
 obtain⟨l,v⟩:=x;simp only[zF] at h;split at h
 ·rename_i hl;rw[<-h];simp only[NL];have hp:=LS l v;rw[iG (fun i=>(v,l,aU (af l),(i:Int))) (r:=if cq l v<l.length then AN true else wt ()) (cq l v) ?_ ?_ ?_ fF]
  ·rw[<-PQ l v];unfold uG gO;by_cases h:cq l v<l.length
   ·rw[ak h,ak h,decide_eq_true (by omega)];rfl
   ·rw[aq h,aq h];rfl
  ·intro j b;simp only
   have a:j<l.length:=by omega
   rw[bm (yN a),eZ,getD_some 0 a,bw,bi (xT (fun e=>LR b (by rw[getD_some 0 a,e])))];simp only[Jy (show j<=1048577 by omega)]
  ·simp only
   by_cases h:cq l v<l.length
   ·rw[ak h,bm (yN h),eZ,Ii h,bw,bm (Al rfl)]
   ·rw[aq h,bi (show bF _ (aU (af l))=false from Lw (by show l.length<=_;omega))]
  ·rfl
 ·cases h
theorem IJ {n m:Nat} (h:n<=m):iY 0 (n:Int) m=some (0,n):=by unfold iY;rw[ak ⟨by omega,by omega,by omega⟩];simp
theorem MJ (l:U) (n:Nat):iy l 0 n=l.take n:=rfl
theorem ajB (x:U×U) (y:Bool) (h:Cf x=some y):Om aK x=some y:=by
 obtain⟨L,D⟩:=x;simp only[Cf] at h;split at h
 ·rename_i hl;rw[<-h];simp only[Om,m6];by_cases e:L.length<=12
  rotate_left
  ·rw[bm (eE (by rw[nl];omega)),decide_eq_false e];rfl
  rw[bi (dY (by rw[nl];omega)),decide_eq_true e,zaR];by_cases l:L.length=D.length
  rotate_left
  ·rw[bm (yT (by rw[nl,nl];omega)),decide_eq_false l];rfl
  rw[bi (tQ (by rw[nl,nl];omega)),decide_eq_true l,zaR];obtain⟨n,hn,f,d⟩:=Uf (CA L D) L.length;rw[iG (fun i=>(L,D,L,aU (af L),(i:Int))) (r:=if n<L.length then AN false else wt ()) n ?_ ?_ ?_ fF]
  ·by_cases h:n<L.length
   ·rw[ak h,decide_eq_false (fun q=>(d.resolve_left (by omega)) (q n h))];rfl
   ·rw[aq h,decide_eq_true (fun j g=>f j (by omega))];rfl
  ·intro j g;simp only
   obtain⟨a,b,c⟩:=f j g;have k:j<L.length:=by omega
   rw[bm (yN k),eZ,getD_some 0 k,bw];simp only[iL,bw];rw[bi (Bf a),eZ,getD_some 0 (show j<D.length by omega),bw];rw[bi (Bf b),IJ (show j<=af L by show j<=L.length;omega),bw];simp only[MJ];rw[show uj (L.take j,L.getD j 0)=some (uG (L.take j) (L.getD j 0)) from ak (by rw[IT];omega),bw,PQ,bi (decide_eq_false c)]
   simp only[Jy (show j<=1048577 by omega)]
  ·simp only
   by_cases h:n<L.length
   ·have m:=d.resolve_left (by omega);rw[ak h,bm (yN h),eZ,getD_some 0 h,bw];simp only[iL,bw];by_cases a:0<=L.getD n 0/\L.getD n 0<=99
    rotate_left
    ·rw[bm (H9 a)]
    rw[bi (Bf a),eZ,getD_some 0 (show n<D.length by omega),bw];by_cases b:1<=D.getD n 0/\D.getD n 0<=8
    rotate_left
    ·rw[bm (H9 b)]
    rw[bi (Bf b),IJ (show n<=af L by show n<=L.length;omega),bw];simp only[MJ];rw[show uj (L.take n,L.getD n 0)=some (uG (L.take n) (L.getD n 0)) from ak (by rw[IT];omega),bw,PQ]
    by_cases c:L.getD n 0∈L.take n
    ·rw[bm (decide_eq_true c)]
    ·exact absurd ⟨a,b,c⟩ m
   ·rw[aq h,bi (show bF _ (aU (af L))=false from Lw (by show L.length<=_;omega))]
  ·rfl
 ·cases h
theorem vP {L D:U} (h:m6 L D=true):L.length<=12/\L.length=D.length/\∀j,j<L.length->CA L D j:=by simp only[m6,By,decide_eq_true_eq] at h;exact h
theorem Cy {L D:U} (h:m6 L D=true):∀x∈D,1<=x/\x<=8:=by obtain⟨_,h2,c⟩:=vP h;intro x hx;obtain⟨i,a,e⟩:=zar.1 hx;have:=(c i (by omega)).2.1;have b:=getD_some 0 a;rw[co a,e] at b;rw[<-zbh b] at this;exact this
theorem ajt (x:U×U×U) (y:Int) (h:vD x=some y):Oh aK x=some y:=by obtain⟨L,D,T⟩:=x;simp only[vD] at h;split at h;rename_i hl;rw[<-h];simp only[Oh,iB];rw[show Cf (L,D)=some (m6 L D) from ak hl,bw];(cases hx:m6 L D with|false=>simp[au,dh]|true=>have hd:=Cy hx;have b:∀x∈D,1<=x:=fun x hx=>(hd x hx).1;rw[bi (by rfl),show vG (D,4096)=some (zU 4096 D) from ak ⟨by omega,hl.2,zaP.2 fun x hx=>decide_eq_true (by have:=hd x hx;omega)⟩,bw];unfold zU;rw[JJ (by omega) D 0 1 b (by omega) (by omega),zbt];by_cases a:eo D<=4096;rw[bi dY,ak ⟨rfl,a⟩,show min (eo D) (4096+1)=eo D by omega];rw[bm eE,aq (fun q=>a q.2)]);cases h
theorem acH:∀(l:U) (x:Int),eo (l++[x])=eo l*x
 |[],x=>by simp[eo]
 |a::l,x=>by simp[eo,acH l x,zaT]
theorem acG:∀(l m:U),eo (l++m)=eo l*eo m
 |[],m=>by simp[eo]
 |a::l,m=>by simp[eo,acG l m,zaT]
theorem asw {D:U} {j:Nat} (h:j<D.length):D.take (j+1)=D.take j++[D.getD j 0]:=by rw[zaI,getD_some 0 h];rfl
theorem Eo {D:U} {j:Nat} (h:j<D.length):eo (D.take (j+1))=eo (D.take j)*D.getD j 0:=by rw[asw h,acH]
theorem aqq {D:U} (h:∀x∈D,1<=x) (j:Nat):eo (D.take j)<=eo D:=by
 have e:eo D=eo (D.take j)*eo (D.drop j):=by rw[<-acG,zbf]
 have h1:=Ik (l:=D.take j) fun x hx=>h x (zaQ hx);have a:=Ik (l:=D.drop j) fun x hx=>h x (zbm hx);have:=zaj a (show 0<=eo (D.take j) by omega);rw[e];omega
def OJ (L D:U) (j:Nat):Prop:=CA L D j/\eo (D.take (j+1))<=4096
instance (L D:U) (j:Nat):Decidable (OJ L D j):=by unfold OJ;infer_instance
theorem aiL (x:U×U×U) (y:Int) (h:zE x=some y):NI aK x=some y:=by
 obtain⟨L,D,T⟩:=x;simp only[zE,vD] at h;split at h
 ·rename_i hl;rw[<-h];simp only[NI,iB];by_cases o:L.length<=12
  rotate_left
  ·rw[bm (eE (by rw[nl];omega)),aq (fun q=>o (vP q.1).1)]
  rw[bi (dY (by rw[nl];omega))];by_cases f:L.length=D.length
  rotate_left
  ·rw[bm (yT (by rw[nl,nl];omega)),aq (fun q=>f (vP q.1).2.1)]
  rw[bi (tQ (by rw[nl,nl];omega))];obtain⟨n,hn,d,m⟩:=Uf (OJ L D) L.length;have k:∀j,j<=n->1<=eo (D.take j)/\eo (D.take j)<=4096:=by
   intro j l;constructor
   ·apply Ik;intro x hx;obtain⟨i,v,e⟩:=zar.1 hx;rw[IT] at v;have c:=(d i (by omega)).1.2.1;have p:=getD_some 0 (show i<D.length by omega);rw[List.getElem_take] at e;rw[co (by omega),e] at p;rw[<-zbh p] at c;exact c.1
   ·cases j with
    |zero=>simp[eo]
    |succ j=>exact(d j (by omega)).2
  rw[iG (fun i=>((eo (D.take i),L,aU (af L),(i:Int)),L,D,T)) (r:=if n<L.length then AN (-1) else wt (eo D)) n ?_ ?_ ?_ fF]
  ·by_cases h:n<L.length
   ·rw[ak h,aq]
    ·rfl
    ·intro q;refine m.resolve_left (by omega) ⟨(vP q.1).2.2 n h,?_⟩;have:=aqq (fun x hx=>(Cy q.1 x hx).1) (n+1);have:=q.2;omega
   ·have e:n=L.length:=by omega
    have c:=(k n (zac n)).2;rw[e,f,zat] at c;rw[aq h,ak]
    ·rfl
    ·refine⟨?_,c⟩;simp only[m6,By,decide_eq_true_eq];exact⟨o,f,fun j l=>(d j (by omega)).1⟩
  ·intro j l;simp only
   obtain⟨⟨a1,H,b⟩,s⟩:=d j l;have t:j<L.length:=by omega
   rw[bm (yN t),eZ,getD_some 0 t,bw,bi dY,bi dY,IJ (show j<=af L by show j<=L.length;omega),bw];simp only[MJ];rw[show zF (L.take j,L.getD j 0)=some (decide (L.getD j 0∈L.take j)) from ak (by rw[IT];omega),bw,bi (decide_eq_false b),eZ,getD_some 0 (show j<D.length by omega),bw,bi dY,bi dY]
   have g:=k j (by omega);obtain⟨u,C⟩:=SK (a:=eo (D.take j)) (x:=D.getD j 0) (A:=4096) (B:=8) (by omega) g.2 (by omega) H.2;rw[Eo (by omega)] at s;rw[pf,bi (dY s),<-Eo (by omega)];simp only[Jy (show j<=1048577 by omega)]
  ·simp only
   by_cases h:n<L.length
   ·have I:=m.resolve_left (by omega);rw[ak h,bm (yN h),eZ,getD_some 0 h,bw];by_cases F:L.getD n 0<0
    ·rw[bm (eE F)]
    rw[bi dY];by_cases G:99<L.getD n 0
    ·rw[bm (eE G)]
    rw[bi dY,IJ (show n<=af L by show n<=L.length;omega),bw];simp only[MJ];rw[show zF (L.take n,L.getD n 0)=some (decide (L.getD n 0∈L.take n)) from ak (by rw[IT];omega),bw]
    by_cases b:L.getD n 0∈L.take n
    ·rw[bm (decide_eq_true b)]
    rw[bi (decide_eq_false b),eZ,getD_some 0 (show n<D.length by omega),bw];by_cases z:D.getD n 0<1
    ·rw[bm (eE z)]
    rw[bi dY];by_cases w:8<D.getD n 0
    ·rw[bm (eE w)]
    rw[bi dY];have g:=k n (zac n);obtain⟨u,C⟩:=SK (a:=eo (D.take n)) (x:=D.getD n 0) (A:=4096) (B:=8) (by omega) g.2 (by omega) (by omega);rw[pf];by_cases E:4096<eo (D.take n)*D.getD n 0
    ·rw[bm (eE E)]
    ·exact absurd ⟨⟨⟨by omega,by omega⟩,⟨by omega,by omega⟩,b⟩,by rw[Eo (by omega)];omega⟩ I
   ·have e:n=L.length:=by omega
    rw[aq h,bi (show bF _ (aU (af L))=false from Lw (by show L.length<=_;omega)),e,f,zat]
  ·rfl
 ·cases h

def acb (x:Int×Int):Prop:=(0<=x.1/\x.1<=4096)/\(0<=x.2/\x.2<=4096)/\x.1*x.2<=1048576
instance (x:Int×Int):Decidable (acb x):=by unfold acb;infer_instance
def qk (M:Nat->Nat->Int) (a b:Nat):Nat->Nat->Int:=fun i j=>if i=a then M b j else if i=b then M a j else M i j
def wZ (M:Nat->Nat->Int) (j:Nat):Nat->Nat->Option Nat
 |0,_=>none
 |d+1,k=>if M k j=0 then wZ M j d (k+1) else some k
def vg (p out x:Int) (n:Nat):Int:=if h:n=0 then out else vg p (if n%2=1 then out*x%p else out) (x*x%p) (n/2)
termination_by n
decreasing_by omega
def xD:U->Option U:=fun(l:U)=>if l.length<=1099511627776 then some l else none
def rB:U->Option U:=fun(l:U)=>if l.length<=1099511627776 then some l else none
def ab6 (x:Int×(Int×Int×U)×(Int×Int×U)):Prop:=ph x.1/\Bc x.2.1/\Bc x.2.2/\x.2.1.2.1=x.2.2.1/\x.2.1.1*x.2.2.2.1<=1048576/\td x.1 x.2.1.2.2/\td x.1 x.2.2.2.2
instance (x:Int×(Int×Int×U)×(Int×Int×U)):Decidable (ab6 x):=by unfold ab6;infer_instance
def Oo (NN:Nat):U->(Option U):=
 (fun(l0:U)=>
 (bj 0 0 (af (([]:U)))).ae (fun _=>
 (n3 (aE (af (([]:U))) (af l0)) 8).ae (fun _=>
 (d9 (eR (([]:U)) l0) (aE (af (([]:U))) (af l0))).ae (fun l1=>
 some l1))))
def NJ (NN:Nat):U->(Option U):=
 (fun(l0:U)=>
 (n3 (aE (af (([]:U))) (af l0)) 8).ae (fun _=>
 (d9 (eR (([]:U)) l0) (aE (af (([]:U))) (af l0))).ae (fun l1=>
 some l1)))
theorem ajD (x y:U) (h:xD x=some y):Oo aK x=some y:=by simp only[xD] at h;split at h;rename_i hl;rw[<-h];simp only[Oo];rw[show bj 0 0 (af ([]:U))=some () from rfl,bw,tu (by simp only[aE,af,zaF,fQ];omega),bw];have:eR [] x=x:=rfl;rw[this,show aE (af ([]:U)) (af x)=af x by simp[aE,af],j9];rfl;cases h
theorem aiO (x y:U) (h:rB x=some y):NJ aK x=some y:=by simp only[rB] at h;split at h;rename_i hl;rw[<-h];simp only[NJ];rw[tu (by simp only[aE,af,zaF,fQ];omega),bw];have:eR [] x=x:=rfl;rw[this,show aE (af ([]:U)) (af x)=af x by simp[aE,af],j9];rfl;cases h
theorem S6 {M:Nat->Nat->Int} {j q:Nat}:∀{d k:Nat},wZ M j d k=some q->k<=q/\q<k+d/\M q j≠0
 |0,k,h=>by cases h
 |d+1,k,h=>by simp only[wZ] at h;split at h;have:=S6 h;exact⟨by omega,by omega,this.2.2⟩;rename_i a;injection h with h;subst h;exact⟨by omega,by omega,a⟩
theorem alI (p out x:Int):vg p out x 0=out:=by rw[vg];rfl
theorem alK {n:Nat} (h:n≠0) (p out x:Int):vg p out x n=vg p (if n%2=1 then out*x%p else out) (x*x%p) (n/2):=by rw[vg,dif_neg h]
def aeW (x:Int×Int×Int):Prop:=gS x.1=true/\(1<=x.2.1/\x.2.1<=8)/\(1<=x.2.2/\x.2.2<=8)
instance (x:Int×Int×Int):Decidable (aeW x):=by unfold aeW;infer_instance
abbrev ed:=Nat->Nat->Int
def Bp (p inv:Int) (M:ed) (t:Nat):ed:=fun a b=>if a=t then M t b*inv%p else M a b
def kl (p:Int) (M:ed) (t j n:Nat):ed:=fun a b=>if a<n/\a≠t then(M a b+(p - M a j)*M t b)%p else M a b
def Ih (p:Int) (M:ed) (t j k:Nat):ed:=Bp p (vg p 1 (qk M t k t j) (p - 2).toNat) (qk M t k) t
def acW (p:Int) (M:ed) (t j k:Nat) (d:Int):Int:=(if k=t then d else(p - d)%p)*qk M t k t j%p
def w5 (p:Int) (r:Nat) (s:ed×U×Int) (j:Nat):ed×U×Int:=
 if s.2.1.length<r then
  match wZ s.1 j (r - s.2.1.length) s.2.1.length with
  |none=>s
  |some k=>(kl p (Ih p s.1 s.2.1.length j k) s.2.1.length j r,s.2.1++[(j:Int)],acW p s.1 s.2.1.length j k s.2.2)
 else s
def acX (p:Int) (r:Nat) (M:ed):Nat->ed×U×Int
 |0=>(M,[],1)
 |j+1=>w5 p r (acX p r M j) j
def acY (x:Int×Int×Int×U):Prop:=ph x.1/\Bc x.2/\td x.1 x.2.2.2
instance (x:Int×Int×Int×U):Decidable (acY x):=by unfold acY;infer_instance
theorem afk {p:Int} {r c:Nat} {M:ed} (d:qZ p r c M) {a b:Nat} (h:a<r) (g:b<r):qZ p r c (qk M a b):=by intro i f j e;unfold qk;split;exact d b g j e;split;exact d a h j e;exact d i f j e
theorem aeA {p inv:Int} {r c:Nat} {M:ed} (e:ph p) (b:qZ p r c M) (t:Nat):qZ p r c (Bp p inv M t):=by intro i a j d;unfold Bp;split;exact PG e _;exact b i a j d
theorem ahi {p:Int} {r c:Nat} {M:ed} (e:ph p) (b:qZ p r c M) (t k n:Nat):qZ p r c (kl p M t k n):=by intro i a j d;unfold kl;split;exact PG e _;exact b i a j d
theorem aqj {p:Int} {r c:Nat} {M:ed} (b:ph p) (a:qZ p r c M) {t k:Nat} (d:t<r) (e:k<r) (j:Nat):qZ p r c (Ih p M t j k):=aeA b (afk a d e) t
structure RI (p:Int) (r c:Nat) (s:ed×U×Int) (j:Nat):Prop where
 m:qZ p r c s.1
 l:s.2.1.length<=r
 lj:s.2.1.length<=j
 d:sf p s.2.2
 e:∀x∈s.2.1,0<=x/\x<(j:Int)
theorem RI.step {p:Int} {r c:Nat} {s:ed×U×Int} {j:Nat} (a:ph p) (h:RI p r c s j):RI p r c (w5 p r s j) (j+1):=by have gf:RI p r c s (j+1):=⟨h.m,h.l,by have:=h.lj;omega,h.d,fun x hx=>by have:=h.e x hx;omega⟩;unfold w5;split;rename_i hl;split;exact gf;rename_i k b;have hq:=S6 b;refine⟨ahi a (aqj a h.m hl (by omega) j) _ _ _,?_,?_,PG a _,?_⟩;simp only[zah,OF,zaF];omega;have:=h.lj;simp only[zah,OF,zaF];omega;intro x hx;simp only[zbV,za0] at hx;rcases hx with hx|rfl;have:=h.e x hx;omega;omega;exact gf
theorem ahh {p:Int} (M:ed) (t j:Nat):kl p M t j 0=M:=by funext a b;exact aq (by omega)
theorem ahj {p:Int} (M:ed) (t j n b:Nat):kl p M t j n n b=M n b:=aq (by omega)
theorem ahl {p:Int} (M:ed) (t j n b:Nat):kl p M t j n t b=M t b:=aq (by omega)
theorem ahk {p:Int} (M:ed) (t j:Nat):kl p M t j (t+1)=kl p M t j t:=by funext a b;unfold kl;by_cases h:a<t;rw[ak (by omega),ak (by omega)];rw[aq (by omega),aq (by omega)]
theorem acz {M:ed} {j:Nat}:∀{d k:Nat},wZ M j d k=none->∀i,k<=i->i<k+d->M i j=0
 |0,k,_,i,h1,h2=>by omega
 |d+1,k,h,i,h1,h2=>by simp only[wZ] at h;split at h;rename_i b;by_cases a:i=k;rw[a];exact b;exact acz h i (by omega) (by omega);cases h
theorem aqJ {p:Int} {r:Nat} {s:ed×U×Int} {j:Nat} (hl:s.2.1.length<r) (h:wZ s.1 j (r - s.2.1.length) s.2.1.length=none):w5 p r s j=s:=by unfold w5;rw[ak hl,h]
theorem aqK {p:Int} {r:Nat} {s:ed×U×Int} {j k:Nat} (hl:s.2.1.length<r) (h:wZ s.1 j (r - s.2.1.length) s.2.1.length=some k): w5 p r s j=(kl p (Ih p s.1 s.2.1.length j k) s.2.1.length j r,s.2.1++[(j:Int)],acW p s.1 s.2.1.length j k s.2.2):=by unfold w5;rw[ak hl,h]
section
variable {p:Int} {r c:Nat} {M0:ed}
end
section
variable {p:Int} {r c:Nat} {M0:ed}
end
section
variable {p:Int} {r c:Nat} {M R:ed} {L:U}
end
abbrev Co:=Int×Int×Int×U
def aeM (s:Co):Prop:=(0<=s.1/\s.1<=64)/\(0<=s.2.1/\s.2.1<=64)/\(0<=s.2.2.1/\s.2.2.1<=64)/\(s.2.2.2.length:Int)=s.1*s.2.1*s.2.2.1
instance (s:Co):Decidable (aeM s):=by unfold aeM;infer_instance
def lH (D ix:U):Bool:=decide (ix.length=D.length)&&decide (∀i,i<D.length->0<=ix.getD i 0/\ix.getD i 0<D.getD i 0)
def kU (n:Nat) (f:Nat->Int):U:=(zai n).map f
theorem rm (n:Nat) (f:Nat->Int):(kU n f).length=n:=by simp[kU]
theorem xf {n j:Nat} (f:Nat->Int) (h:j<n):(kU n f)[j]? =some (f j):=by simp[kU,zaW h]
theorem aqW {n:Nat} {f g:Nat->Int} (h:∀j,j<n->f j=g j):kU n f=kU n g:=GB fun j a=>h j (zay.1 a)
theorem map_take {α:Type} (g:α->Int) {L:List α} {j:Nat} {x:α} (h:L[j]? =some x):eR ((L.take j).map g) [g x]=(L.take (j+1)).map g:=by simp[eR,zaI,h]
def bD:U->Nat
 |[]=>1
 |x::l=>x.toNat*bD l
def iJ (D:U) (i:Nat):Nat:=bD (D.drop i)
def nV (D:U) (n i:Nat):Int:=((n/iJ D (i+1)%(D.getD i 0).toNat:Nat):Int)
def cK (D:U) (n:Nat):U:=kU D.length (nV D n)
def pg (D ix:U):Nat->Nat
 |0=>0
 |j+1=>pg D ix j*(D.getD j 0).toNat+(ix.getD j 0).toNat
def nW (D:U):Prop:=D.length<=1048576/\∀x∈D,1<=x/\x<=1048576
instance (D:U):Decidable (nW D):=by unfold nW;infer_instance
theorem Wo {D:U} (h:nW D) {i:Nat} (a:i<D.length):∃d:Nat,D[i]? =some (d:Int)/\D.getD i 0=(d:Int)/\(D.getD i 0).toNat=d/\1<=d/\d<=1048576:=by have e:=getD_some 0 a;have hm:=h.2 _ (zad e);obtain⟨d,hd⟩:=re (show 0<=D.getD i 0 by omega);exact⟨d,by rw[e,hd],hd,by rw[hd];rfl,by omega,by omega⟩
theorem Nf {D:U} {i:Nat} (a:i<D.length):iJ D i=(D.getD i 0).toNat*iJ D (i+1):=by unfold iJ;rw[drop_cons (getD_some 0 a),bD]
theorem EZ (D:U):iJ D D.length=1:=by simp[iJ,bD]
theorem asq (D:U):iJ D 0=bD D:=rfl
theorem Il:∀{D:U},(∀x∈D,1<=x)->0<bD D
 |[],_=>Nat.one_pos
 |x::l,h=>by have h1:=h x zaE;exact zce (by omega) (Il fun y hy=>h y (zaq _ hy))
theorem Er:∀{D:U},(∀x∈D,1<=x)->eo D=(bD D:Int)
 |[],_=>rfl
 |x::l,h=>by have h1:=h x zaE;rw[eo,bD,Er fun y hy=>h y (zaq _ hy)];obtain⟨x,rfl⟩:=re (show 0<=x by omega);simp
theorem yo {D:U} {n i:Nat} (a:i<D.length):(cK D n).getD i 0=nV D n i:=by rw[AI,cK,xf _ a];rfl
theorem acd {D:U} (a:nW D) {n:Nat} (hn:n<bD D):∀j,j<=D.length->pg D (cK D n) j=n/iJ D j
 |0,_=>by rw[asq,zbM hn];rfl
 |j+1,hj=>by rw[pg,acd a hn j (by omega),yo (by omega),nV,If,Nf (by omega),zag (D.getD j 0).toNat,<-Nat.div_div_eq_div_mul,zag,zaX]
theorem aqV (n:Nat) (f:Nat->Int):eR (kU n f) [f n]=kU (n+1) f:=by unfold eR kU;rw[zbW,zbg];rfl

def ci:Int×Int×Int->Bool:=fun((k,p,n):Int×Int×Int)=>
 if k=1 then decide (p=0/\n=0) else if k=2 then gS p&&decide (n=0) else if k=3\/k=4\/k=5 then decide ((1<=p/\p<=1000000)/\n=0)
 else if k=6 then decide (p=0/\1<=n/\n<=20) else if k=7 then gS p&&decide (1<=n/\n<=6) else if k=8 then gS p&&decide (p≠2/\n=0) else false
def jk:Int×Int×Int->Int:=fun((k,p,n):Int×Int×Int)=>if k=7 then n else if k=8 then 4 else 1
def ax (r:Int×Int×Int):Nat:=(jk r).toNat
def bY:Int×Int×Int->Int:=fun((k,p,n):Int×Int×Int)=>if k=1 then 1 else if k=3\/k=4\/k=5 then p else if k=6 then 2^n.toNat - 1 else p - 1
def mq (t v:Int):Bool:=decide (0<=v/\v<=t)
def cL (r:Int×Int×Int) (x:U):Bool:=decide (x.length=ax r)&&x.all (mq (bY r))
def fx:Int×Int×Int->U:=fun((k,p,n):Int×Int×Int)=>if k=4 then[p] else dn (ax (k,p,n)) 0
def eW:Int×Int×Int->U:=fun((k,p,n):Int×Int×Int)=>bh (dn (ax (k,p,n)) 0) 0 (if k=4 then 0 else if k=5\/k=6 then bY (k,p,n) else 1)
def gX:Int×Int×Int->Int->Int->Int:=fun((k,p,n):Int×Int×Int) a b=>
 if k=1\/k=6 then((a.toNat|||b.toNat:Nat):Int) else if k=3 then min (a+b) p else if k=4 then min a b else if k=5 then max a b else(a+b)%p
def sm:Nat->(Nat->Int)->Int
 |0,_=>0
 |n+1,f=>sm n f+f n
def kW (om:Bool) (x y:Nat->Int) (t i j:Nat):Int:=if i+j=t then x i*y j else if om=true/\i+j=t+4 then -(x i*y j) else 0
def fw (w:Nat) (f:Nat->Int):U:=(zai w).map f
def cu (x:U):Nat->Int:=fun i=>x.getD i 0
def eQ (r:Int×Int×Int) (x y:U):U:=fw (ax r) fun j=>gX r (cu x j) (cu y j)
def Ae (p:Int) (om:Bool) (w:Nat) (x y:Nat->Int):U:=fw w fun t=>sm w (fun i=>sm w (fun j=>kW om x y t i j))%p
def kz:Int×Int×Int->Int->Int->Int:=fun((k,p,n):Int×Int×Int) a b=>
 if k=1\/k=6 then((a.toNat&&&b.toNat:Nat):Int) else if k=2 then a*b%p else if k=3 then min (a*b) p else if k=4 then min (a+b) p else min a b
def rb (r:Int×Int×Int) (x y:U):U:=if r.1=7\/r.1=8 then Ae r.2.1 (decide (r.1=8)) (ax r) (cu x) (cu y) else[kz r (cu x 0) (cu y 0)]
def ui:Int×Int×Int->Option Bool:=fun r=>some (ci r)
def rA:Int×Int×Int->Option Bool:=fun r=>some (ci r)
def rD:Int×Int×Int->Option Int:=fun r=>some (jk r)
def pH:Int×Int×Int->Option Int:=fun r=>some (jk r)
def vF:Int×Int×Int->Option Int:=fun r=>if ci r=true then some (bY r) else none
def xz:Int×Int×Int->Option Int:=fun r=>if ci r=true then some (bY r) else none
def xy:(Int×Int×Int)×U->Option Bool:=fun((r,x):(Int×Int×Int)×U)=>if ci r=true/\x.length<=9223372036854775806 then some (x.all (mq (bY r))) else none
def Ce:(Int×Int×Int)×U->Option Bool:=fun((r,x):(Int×Int×Int)×U)=>if ci r=true/\x.length<=9223372036854775806 then some (cL r x) else none
def Cb:(Int×Int×Int)×U->Option Bool:=fun((r,x):(Int×Int×Int)×U)=>if x.length<=9223372036854775806 then some (ci r&&cL r x) else none
def ud:(Int×Int×Int)×U->Option Bool:=fun((r,x):(Int×Int×Int)×U)=>if x.length<=9223372036854775806 then some (ci r&&cL r x) else none
def Fk:Int×Int×Int->Option U:=fun r=>if ci r=true then some (fx r) else none
def UR:Int×Int×Int->Option U:=fun r=>if ci r=true then some (fx r) else none
def vE:Int×Int×Int->Option U:=fun r=>if ci r=true then some (eW r) else none
def ue:Int×Int×Int->Option U:=fun r=>if ci r=true then some (eW r) else none
def zI:(Int×Int×Int)×U×U->Option U:=fun((r,x,y):(Int×Int×Int)×U×U)=>if ci r=true/\cL r x=true/\cL r y=true then some (eQ r x y) else none
def zG:Int×Int×Int->Option (Int×Int×Int):=fun r=>some r
def UZ (NN:Nat):(Int×(Int×Int))->(Option (Int×(Int×Int))):=
 (fun((i0,i1,i2):(Int×(Int×Int)))=>
 some (i0,i1,i2))
def NG (NN:Nat):(Int×(Int×Int))->(Option Bool):=
 (fun((i0,i1,i2):(Int×(Int×Int)))=>
 au (bR i0 (1:Int))
 (au (bR i1 (0:Int))
 (some (bR i2 (0:Int)))
 (some false))
 (au (bR i0 (2:Int))
 ((xv i1).ae (fun b3=>
 au (b3)
 (some (bR i2 (0:Int)))
 (some false)))
 (cT (au (bR i0 (3:Int))
 (some (wt ((true,i0),i0,i1,i2)))
 (au (bR i0 (4:Int))
 (some (wt ((true,i0),i0,i1,i2)))
 (some (wt ((bR i0 (5:Int),i0),i0,i1,i2)))))
 (fun((b4,i5),i6,i7,i8)=>
 au (b4)
 (au (gO (1:Int) i7)
 (au (gO i7 (1000000:Int))
 (some (bR i8 (0:Int)))
 (some false))
 (some false))
 (au (bR i5 (6:Int))
 (au (bR i7 (0:Int))
 (au (gO (1:Int) i8)
 (some (gO i8 (20:Int)))
 (some false))
 (some false))
 (au (bR i5 (7:Int))
 ((xv i7).ae (fun b9=>
 au (b9)
 (au (gO (1:Int) i8)
 (some (gO i8 (6:Int)))
 (some false))
 (some false)))
 (au (bR i5 (8:Int))
 ((xv i7).ae (fun nM=>
 au (nM)
 (au (ff i7 (2:Int))
 (some (bR i8 (0:Int)))
 (some false))
 (some false)))
 (some false))))))))
def Of (NN:Nat):(Int×(Int×Int))->(Option Bool):=
 (fun((i0,i1,i2):(Int×(Int×Int)))=>
 au (bR i0 (1:Int))
 (au (bR i1 (0:Int))
 (some (bR i2 (0:Int)))
 (some false))
 (au (bR i0 (2:Int))
 ((xB i1).ae (fun b3=>
 au (b3)
 (some (bR i2 (0:Int)))
 (some false)))
 (cT (au (bR i0 (3:Int))
 (some (wt ((true,i0),i0,i1,i2)))
 (au (bR i0 (4:Int))
 (some (wt ((true,i0),i0,i1,i2)))
 (some (wt ((bR i0 (5:Int),i0),i0,i1,i2)))))
 (fun((b4,i5),i6,i7,i8)=>
 au (b4)
 ((iL (i7,(1:Int),(1000000:Int))).ae (fun b9=>
 au (b9)
 (some (bR i8 (0:Int)))
 (some false)))
 (au (bR i5 (6:Int))
 (au (bR i7 (0:Int))
 ((iL (i8,(1:Int),(20:Int))).ae (fun nM=>
 some nM))
 (some false))
 (au (bR i5 (7:Int))
 ((xB i7).ae (fun zQ=>
 au (zQ)
 ((iL (i8,(1:Int),(6:Int))).ae (fun OK=>
 some OK))
 (some false)))
 (au (bR i5 (8:Int))
 ((xB i7).ae (fun FC=>
 au (FC)
 (au (bF (2:Int) i7)
 (some (bR i8 (0:Int)))
 (some false))
 (some false)))
 (some false))))))))
def NR (NN:Nat):(Int×(Int×Int))->(Option Int):=
 (fun((i0,i1,i2):(Int×(Int×Int)))=>
 au (bR i0 (7:Int))
 (some i2)
 (au (bR i0 (8:Int))
 (some (4:Int))
 (some (1:Int))))
def U1 (NN:Nat):(Int×(Int×Int))->(Option Int):=
 (fun((i0,i1,i2):(Int×(Int×Int)))=>
 au (bR i0 (7:Int))
 (some i2)
 (au (bR i0 (8:Int))
 (some (4:Int))
 (some (1:Int))))
def US (NN:Nat):(Int×(Int×Int))->(Option Int):=
 (fun((i0,i1,i2):(Int×(Int×Int)))=>
 au (bR i0 (1:Int))
 (some (1:Int))
 (cT (au (bR i0 (3:Int))
 (some (wt ((true,i0),i0,i1,i2)))
 (au (bR i0 (4:Int))
 (some (wt ((true,i0),i0,i1,i2)))
 (some (wt ((bR i0 (5:Int),i0),i0,i1,i2)))))
 (fun((b3,i4),i5,i6,i7)=>
 au (b3)
 (some i6)
 (au (bR i4 (6:Int))
 ((zl .i64 (1:Int) i7).ae (fun i8=>
 some (t5 .i64 i8 1)))
 (some (t5 .i64 i6 1))))))
def U0 (NN:Nat):(Int×(Int×Int))->(Option Int):=
 (fun((i0,i1,i2):(Int×(Int×Int)))=>
 au (bR i0 (1:Int))
 (some (1:Int))
 (cT (au (bR i0 (3:Int))
 (some (wt ((true,i0),i0,i1,i2)))
 (au (bR i0 (4:Int))
 (some (wt ((true,i0),i0,i1,i2)))
 (some (wt ((bR i0 (5:Int),i0),i0,i1,i2)))))
 (fun((b3,i4),i5,i6,i7)=>
 au (b3)
 (some i6)
 (au (bR i4 (6:Int))
 ((zl .i64 (1:Int) i7).ae (fun i8=>
 some (t5 .i64 i8 1)))
 (some (t5 .i64 i6 1))))))
def NM (NN:Nat):((Int×(Int×Int))×U)->(Option Bool):=
 (fun(((i0,i1,i2),l3):((Int×(Int×Int))×U))=>
 (xz (i0,i1,i2)).ae (fun i4=>
 cT (cd NN (fun((i5,l6,i7,i8):(Int×(U×(Int×Int))))=>
 au (bF i8 i7)
 ((cW l6 i8).ae (fun i9=>
 au (bF i9 (0:Int))
 (some (AN (AN false)))
 (au (bF i5 i9)
 (some (AN (AN false)))
 (some (wt (i5,l6,i7,cH .i64 i8 1))))))
 (some (AN (wt ()))))
 (i4,l3,aU (af l3),(0:Int)))
 (fun _=>
 some true)))
def Ok (NN:Nat):((Int×(Int×Int))×U)->(Option Bool):=
 (fun(((i0,i1,i2),l3):((Int×(Int×Int))×U))=>
 cT (cd NN (fun(((l4,l5,i6,i7),i8,i9,eF):((U×(U×(Int×Int)))×(Int×(Int×Int))))=>
 au (bF i7 i6)
 ((cW l5 i7).ae (fun eK=>
 (vF (i8,i9,eF)).ae (fun gu=>
 (iL (eK,(0:Int),gu)).ae (fun FC=>
 au (dh FC)
 (some (AN (AN false)))
 (some (wt ((l4,l5,i6,cH .i64 i7 1),i8,i9,eF)))))))
 (some (AN (wt (l4,i8,i9,eF)))))
 ((l3,l3,aU (af l3),(0:Int)),i0,i1,i2))
 (fun(dX,iU,eU,jt)=>
 (rD (iU,eU,jt)).ae (fun iE=>
 some (bR (aU (af dX)) iE))))
def ND (NN:Nat):((Int×(Int×Int))×U)->(Option Bool):=
 (fun(((i0,i1,i2),l3):((Int×(Int×Int))×U))=>
 (rA (i0,i1,i2)).ae (fun b4=>
 au (b4)
 ((pH (i0,i1,i2)).ae (fun i5=>
 au (bR (aU (af l3)) i5)
 ((xy ((i0,i1,i2),l3)).ae (fun b6=>
 some b6))
 (some false)))
 (some false)))
def Oc (NN:Nat):((Int×(Int×Int))×U)->(Option Bool):=
 (fun(((i0,i1,i2),l3):((Int×(Int×Int))×U))=>
 (ui (i0,i1,i2)).ae (fun b4=>
 au (b4)
 ((Ce ((i0,i1,i2),l3)).ae (fun b5=>
 some b5))
 (some false)))
def UT (NN:Nat):(Int×(Int×Int))->(Option U):=
 (fun((i0,i1,i2):(Int×(Int×Int)))=>
 (pH (i0,i1,i2)).ae (fun i3=>
 (mr i3 i3 8).ae (fun k4=>
 cT (au (bR i0 (4:Int))
 ((dw (0:Int) k4).ae (fun k5=>
 (cP (dn k4 (0:Int)) (aE 0 k5)).ae (fun i6=>
 (bj 0 k4 (af (bh (dn k4 (0:Int)) (aE 0 k5) i1))).ae (fun _=>
 some (wt (bh (dn k4 (0:Int)) (aE 0 k5) i1))))))
 ((bj 0 k4 (af (dn k4 (0:Int)))).ae (fun _=>
 some (wt (dn k4 (0:Int))))))
 (fun l7=>
 (d9 l7 (af l7)).ae (fun l8=>
 some l8)))))
def U2 (NN:Nat):(Int×(Int×Int))->(Option U):=
 (fun((i0,i1,i2):(Int×(Int×Int)))=>
 (rD (i0,i1,i2)).ae (fun i3=>
 (mr i3 i3 8).ae (fun k4=>
 cT (au (bR i0 (4:Int))
 ((dw (0:Int) k4).ae (fun k5=>
 (cP (dn k4 (0:Int)) (aE 0 k5)).ae (fun i6=>
 (bj 0 k4 (af (bh (dn k4 (0:Int)) (aE 0 k5) i1))).ae (fun _=>
 some (wt (bh (dn k4 (0:Int)) (aE 0 k5) i1))))))
 ((bj 0 k4 (af (dn k4 (0:Int)))).ae (fun _=>
 some (wt (dn k4 (0:Int))))))
 (fun l7=>
 (d9 l7 (af l7)).ae (fun l8=>
 some l8)))))
def NQ (NN:Nat):(Int×(Int×Int))->(Option U):=
 (fun((i0,i1,i2):(Int×(Int×Int)))=>
 (pH (i0,i1,i2)).ae (fun i3=>
 (mr i3 i3 8).ae (fun k4=>
 au (bR i0 (4:Int))
 ((dw (0:Int) k4).ae (fun k5=>
 (cP (dn k4 (0:Int)) (aE 0 k5)).ae (fun i6=>
 (d9 (bh (dn k4 (0:Int)) (aE 0 k5) (0:Int)) k4).ae (fun l7=>
 some l7))))
 (au (bR i0 (5:Int))
 ((dw (0:Int) k4).ae (fun k8=>
 (cP (dn k4 (0:Int)) (aE 0 k8)).ae (fun i9=>
 (d9 (bh (dn k4 (0:Int)) (aE 0 k8) i1) k4).ae (fun eV=>
 some eV))))
 (au (bR i0 (6:Int))
 ((xz (i0,i1,i2)).ae (fun eK=>
 (dw (0:Int) k4).ae (fun lI=>
 (cP (dn k4 (0:Int)) (aE 0 lI)).ae (fun mn=>
 (d9 (bh (dn k4 (0:Int)) (aE 0 lI) eK) k4).ae (fun dX=>
 some dX)))))
 ((dw (0:Int) k4).ae (fun AY=>
 (cP (dn k4 (0:Int)) (aE 0 AY)).ae (fun eU=>
 (d9 (bh (dn k4 (0:Int)) (aE 0 AY) (1:Int)) k4).ae (fun gD=>
 some gD)))))))))
def Ol (NN:Nat):(Int×(Int×Int))->(Option U):=
 (fun((i0,i1,i2):(Int×(Int×Int)))=>
 (rD (i0,i1,i2)).ae (fun i3=>
 (mr i3 i3 8).ae (fun k4=>
 cT (au (bR i0 (5:Int))
 ((bj 0 k4 (af (dn k4 (0:Int)))).ae (fun _=>
 some (wt ((true,i0),(i0,i1,i2),dn k4 (0:Int)))))
 ((bj 0 k4 (af (dn k4 (0:Int)))).ae (fun _=>
 some (wt ((bR i0 (6:Int),i0),(i0,i1,i2),dn k4 (0:Int))))))
 (fun((b5,i6),(i7,i8,i9),eV)=>
 au (b5)
 ((vF (i7,i8,i9)).ae (fun eK=>
 (dw (0:Int) (af eV)).ae (fun lI=>
 (cP eV (aE 0 lI)).ae (fun mn=>
 (d9 (bh eV (aE 0 lI) eK) (af eV)).ae (fun dX=>
 some dX)))))
 (au (bR i6 (4:Int))
 ((dw (0:Int) (af eV)).ae (fun AY=>
 (cP eV (aE 0 AY)).ae (fun eU=>
 (d9 (bh eV (aE 0 AY) (0:Int)) (af eV)).ae (fun gD=>
 some gD))))
 ((dw (0:Int) (af eV)).ae (fun yu=>
 (cP eV (aE 0 yu)).ae (fun lF=>
 (d9 (bh eV (aE 0 yu) (1:Int)) (af eV)).ae (fun kv=>
 some kv)))))))))
def Oj (NN:Nat):((Int×(Int×Int))×(U×U))->(Option U):=
 (fun(((i0,i1,i2),l3,l4):((Int×(Int×Int))×(U×U)))=>
 (mr (aU (af l3)) (aU (af l3)) 8).ae (fun k5=>
 cT ((bj 0 k5 (af (dn k5 (0:Int)))).ae (fun _=>
 cd NN (fun(((l6,l7,i8,i9),(eF,eK,gu),dM):((U×(U×(Int×Int)))×((Int×(Int×Int))×U)))=>
 au (bF i9 i8)
 (cT (au (bR eF (1:Int))
 (aB dM (
 some (wt ((true,eF,i9,i9,l6,l7,i8),(eF,eK,gu),dM))))
 (aB dM (
 some (wt ((bR eF (6:Int),eF,i9,i9,l6,l7,i8),(eF,eK,gu),dM)))))
 (fun((b14,iU,eU,jt,gE,fC,gM),(kt,h9,ku),d7)=>
 au (b14)
 ((cW gE eU).ae (fun qX=>
 (cW fC eU).ae (fun o7=>
 (dw eU (af d7)).ae (fun Hy=>
 (cP d7 (aE 0 Hy)).ae (fun tI=>
 (bj 0 (af d7) (af (bh d7 (aE 0 Hy) (yW .i64 qX o7)))).ae (fun _=>
 some (wt ((gE,fC,gM,cH .i64 jt 1),(kt,h9,ku),bh d7 (aE 0 Hy) (yW .i64 qX o7)))))))))
 (au (bR iU (3:Int))
 ((cW gE eU).ae (fun oy=>
 (cW fC eU).ae (fun lG=>
 (dw eU (af d7)).ae (fun AZ=>
 (cP d7 (aE 0 AZ)).ae (fun nv=>
 (bj 0 (af d7) (af (bh d7 (aE 0 AZ) (oE (cH .i64 oy lG) h9)))).ae (fun _=>
 some (wt ((gE,fC,gM,cH .i64 jt 1),(kt,h9,ku),bh d7 (aE 0 AZ) (oE (cH .i64 oy lG) h9)))))))))
 (au (bR iU (4:Int))
 ((cW gE eU).ae (fun vc=>
 (cW fC eU).ae (fun nw=>
 (dw eU (af d7)).ae (fun q8=>
 (cP d7 (aE 0 q8)).ae (fun vd=>
 (bj 0 (af d7) (af (bh d7 (aE 0 q8) (oE vc nw)))).ae (fun _=>
 some (wt ((gE,fC,gM,cH .i64 jt 1),(kt,h9,ku),bh d7 (aE 0 q8) (oE vc nw)))))))))
 (au (bR iU (5:Int))
 ((cW gE eU).ae (fun wK=>
 (cW fC eU).ae (fun AO=>
 (dw eU (af d7)).ae (fun A6=>
 (cP d7 (aE 0 A6)).ae (fun KR=>
 (bj 0 (af d7) (af (bh d7 (aE 0 A6) (sx wK AO)))).ae (fun _=>
 some (wt ((gE,fC,gM,cH .i64 jt 1),(kt,h9,ku),bh d7 (aE 0 A6) (sx wK AO)))))))))
 ((cW gE eU).ae (fun sd=>
 (cW fC eU).ae (fun tJ=>
 (w6 (cH .i64 sd tJ) h9).ae (fun DN=>
 (dw eU (af d7)).ae (fun R8=>
 (cP d7 (aE 0 R8)).ae (fun Ha=>
 (bj 0 (af d7) (af (bh d7 (aE 0 R8) DN))).ae (fun _=>
 some (wt ((gE,fC,gM,cH .i64 jt 1),(kt,h9,ku),bh d7 (aE 0 R8) DN))))))))))))))
 ((aB dM (
 some (wt dM))).ae (fun wP=>
 some (AN wP))))
 ((l3,l4,aU (af l3),(0:Int)),(i0,i1,i2),dn k5 (0:Int))))
 (fun yE=>
 (d9 yE (af yE)).ae (fun vk=>
 some vk))))
theorem ajl (x y:Int×Int×Int) (h:zG x=some y):UZ aK x=some y:=h
theorem asz (r:Int×Int×Int):zG r=some r:=rfl
theorem z7 {α:Type} (a b:Int) (x y:α):au (bR a b) x y=if a=b then x else y:=by by_cases h:a=b;rw[ak h,bm (Al h)];rw[aq h,bi (xT h)]
theorem F0 (a b:Int):bR a b=decide (a=b):=by by_cases h:a=b<;>simp[bR,h]
theorem aao (a b:Int):gO a b=decide (a<=b):=rfl
theorem anx (a b:Int):bF a b=decide (a<b):=rfl
theorem CR {α:Type} (p:Prop) [Decidable p] (x y:α):au (decide p) x y=if p then x else y:=by by_cases h:p;rw[ak h,bm (decide_eq_true h)];rw[aq h,bi (decide_eq_false h)]
theorem pt {k p n:Int} (h:ci (k,p,n)=true):(k=1/\p=0/\n=0)\/(k=2/\gS p=true/\n=0)\/(k=3/\(1<=p/\p<=1000000)/\n=0)\/(k=4/\(1<=p/\p<=1000000)/\n=0)\/(k=5/\(1<=p/\p<=1000000)/\n=0)\/ (k=6/\p=0/\1<=n/\n<=20)\/(k=7/\gS p=true/\1<=n/\n<=6)\/(k=8/\gS p=true/\p≠2/\n=0):=by simp only[ci] at h;by_cases f:k=1;rw[ak f] at h;exact .inl ⟨f,by simpa using h⟩;rw[aq f] at h;by_cases d:k=2;rw[ak d] at h;simp at h;exact .inr (.inl ⟨d,h⟩);rw[aq d] at h;by_cases a:k=3\/k=4\/k=5;rw[ak a] at h;simp only[decide_eq_true_eq] at h;rcases a with a|a|a;exact .inr (.inr (.inl ⟨a,h⟩));exact .inr (.inr (.inr (.inl ⟨a,h⟩)));exact .inr (.inr (.inr (.inr (.inl ⟨a,h⟩))));rw[aq a] at h;by_cases e:k=6;rw[ak e] at h;simp at h;exact .inr (.inr (.inr (.inr (.inr (.inl ⟨e,h⟩)))));rw[aq e] at h;by_cases c:k=7;rw[ak c] at h;simp at h;exact .inr (.inr (.inr (.inr (.inr (.inr (.inl ⟨c,h⟩))))));rw[aq c] at h;by_cases b:k=8;rw[ak b] at h;simp at h;exact .inr (.inr (.inr (.inr (.inr (.inr (.inr ⟨b,h⟩))))));rw[aq b] at h;cases h
theorem aiI (x:Int×Int×Int) (y:Bool) (h:rA x=some y):NG aK x=some y:=by
 obtain⟨k,p,n⟩:=x;rw[<-h];simp only[rA,NG,ci,xv,bw,F0,aao,CR];by_cases i:k=1
 ·rw[ak i,ak i];by_cases j:p=0<;>by_cases hn:n=0<;>simp[j,hn]
 rw[aq i,aq i];by_cases g:k=2
 ·rw[ak g,ak g];cases gS p<;>rfl
 rw[aq g,aq g];have hd:(if k=3 then some (wt ((true,k),k,p,n)) else if k=4 then some (wt ((true,k),k,p,n)) else some (wt ((decide (k=5),k),k,p,n)):Option (((Bool×Int)×Int×Int×Int)⊕Bool))=some (wt ((decide (k=3\/k=4\/k=5),k),k,p,n)):=by
  by_cases b:k=3
  ·simp[b]
  ·by_cases c:k=4
   ·simp[c]
   ·simp[b,c]
 rw[hd,ft];simp only[CR];by_cases b:k=3\/k=4\/k=5
 ·rw[ak b,ak b];by_cases d:1<=p
  ·by_cases a:p<=1000000<;>simp[d,a]
  ·simp[d]
 rw[aq b,aq b];by_cases c:k=6
 ·rw[ak c,ak c];by_cases d:p=0
  ·by_cases a:1<=n<;>simp[d,a]
  ·simp[d]
 rw[aq c,aq c];by_cases f:k=7
 ·rw[ak f,ak f];cases gS p
  ·rfl
  ·rw[bm rfl];by_cases a:1<=n<;>simp[a]
 rw[aq f,aq f];by_cases e:k=8
 ·rw[ak e,ak e];cases gS p
  ·rfl
  ·rw[bm rfl,HZ,zaR];by_cases a:p=2<;>simp[a,au]
 rw[aq e,aq e]
theorem ajq (x:Int×Int×Int) (y:Bool) (h:ui x=some y):Of aK x=some y:=by
 obtain⟨k,p,n⟩:=x;rw[<-h];simp only[ui,Of,ci,xB,iL,bw,F0,anx,CR];by_cases f:k=1
 ·rw[ak f,ak f];by_cases g:p=0<;>by_cases hn:n=0<;>simp[g,hn]
 rw[aq f,aq f];by_cases e:k=2
 ·rw[ak e,ak e];cases gS p<;>rfl
 rw[aq e,aq e];have hd:(if k=3 then some (wt ((true,k),k,p,n)) else if k=4 then some (wt ((true,k),k,p,n)) else some (wt ((decide (k=5),k),k,p,n)):Option (((Bool×Int)×Int×Int×Int)⊕Bool))=some (wt ((decide (k=3\/k=4\/k=5),k),k,p,n)):=by
  by_cases a:k=3
  ·simp[a]
  ·by_cases b:k=4
   ·simp[b]
   ·simp[a,b]
 rw[hd,ft];simp only[CR];by_cases a:k=3\/k=4\/k=5
 ·rw[ak a,ak a];by_cases i:1<=p/\p<=1000000<;>simp[i]
 rw[aq a,aq a];by_cases b:k=6
 ·rw[ak b,ak b];by_cases i:p=0<;>simp[i]
 rw[aq b,aq b];by_cases d:k=7
 ·rw[ak d,ak d];cases gS p<;>rfl
 rw[aq d,aq d];by_cases c:k=8
 ·rw[ak c,ak c];cases g:gS p
  ·rfl
  ·have:=jR g;rw[bm rfl,zaR];by_cases j:p=2
   ·simp[j]
   ·rw[ak (by omega)];simp[j]
 rw[aq c,aq c]
theorem WW (x:Int×Int×Int) (y:Int) (h:pH x=some y):NR aK x=some y:=by obtain⟨k,p,n⟩:=x;rw[<-h];simp only[pH,NR,jk,z7];by_cases a:k=7;rw[ak a,ak a];rw[aq a,aq a];by_cases b:k=8<;>simp[b]
theorem ajz (x:Int×Int×Int) (y:Int) (h:rD x=some y):U1 aK x=some y:=WW x y h
theorem arO {n:Int} (a:0<=n) (h1:n<=60):zl .i64 1 n=some (2^n.toNat):=by obtain⟨m,rfl⟩:=re a;rw[arP (by omega),If];congr 1
theorem acD {n:Int} (h0:0<=n) (h1:n<=20):1<=(2:Int)^n.toNat/\(2:Int)^n.toNat<=1048576:=by
 have a:(2:Nat)^n.toNat<=2^20:=zbn (by decide) (by omega);have b:1<=(2:Nat)^n.toNat:=Nat.one_le_two_pow;have e:(((2:Nat)^n.toNat:Nat):Int)=(2:Int)^n.toNat:=by push_cast;rfl
 rw[<-e];omega
theorem WV (x:Int×Int×Int) (y:Int) (h:xz x=some y):US aK x=some y:=by obtain⟨k,p,n⟩:=x;simp only[xz] at h;split at h;rename_i hr;rw[<-h];rcases pt hr with⟨rfl,rfl,rfl⟩|⟨rfl,a,rfl⟩|⟨rfl,a,rfl⟩|⟨rfl,a,rfl⟩|⟨rfl,a,rfl⟩|⟨rfl,rfl,hn⟩|⟨rfl,a,hn⟩|⟨rfl,a,j3,rfl⟩;rfl;have:=jR a;exact congrArg some BF;rfl;rfl;rfl;have h1:=acD (n:=n) (by omega) hn.2;show(zl .i64 1 n).ae _=_;rw[arO (by omega) (by omega),bw,BF];rfl;have:=jR a;exact congrArg some BF;have:=jR a;exact congrArg some BF;cases h
theorem ajy (x:Int×Int×Int) (y:Int) (h:vF x=some y):U0 aK x=some y:=WV x y h
theorem zv {r:Int×Int×Int} (h:ci r=true):0<=bY r/\bY r<=1048576:=by obtain⟨k,p,n⟩:=r;rcases pt h with⟨rfl,rfl,rfl⟩|⟨rfl,a,rfl⟩|⟨rfl,a,rfl⟩|⟨rfl,a,rfl⟩|⟨rfl,a,rfl⟩|⟨rfl,rfl,hn⟩|⟨rfl,a,hn⟩|⟨rfl,a,j3,rfl⟩;simp[bY];have:=jR a;simp[bY];omega;simp[bY];omega;simp[bY];omega;simp[bY];omega;have h1:=acD (n:=n) (by omega) hn.2;simp only[bY,Int.reduceEq,reduceIte,or_self];omega;have:=jR a;simp[bY];omega;have:=jR a;simp[bY];omega
theorem jU {r:Int×Int×Int} (h:ci r=true):jk r=(ax r:Int)/\1<=ax r/\ax r<=6:=by obtain⟨k,p,n⟩:=r;rcases pt h with⟨rfl,rfl,rfl⟩|⟨rfl,a,rfl⟩|⟨rfl,a,rfl⟩|⟨rfl,a,rfl⟩|⟨rfl,a,rfl⟩|⟨rfl,rfl,hn⟩|⟨rfl,a,hn⟩|⟨rfl,a,j3,rfl⟩;simp[ax,jk];simp[ax,jk];simp[ax,jk];simp[ax,jk];simp[ax,jk];simp[ax,jk];simp[ax,jk];omega;simp[ax,jk]
theorem aiS (x:(Int×Int×Int)×U) (y:Bool) (h:xy x=some y):NM aK x=some y:=by obtain⟨⟨k,p,n⟩,l⟩:=x;simp only[xy] at h;split at h;rename_i e;obtain⟨hr,hl⟩:=e;rw[<-h];have b:=zv hr;simp only[NM];rw[show xz (k,p,n)=some (bY (k,p,n)) from ak hr,bw];generalize bY (k,p,n)=t at b⊢;rw[Lv l (fun i=>(t,l,aU (af l),(i:Int))) (mq t) (.inr false) (.inl ()) ?_ ?_ ?_ ?_ fF];cases l.all (mq t)<;>rfl;intro i a c b;rw[bm (qb c),eZ,c,bw];simp only[mq,decide_eq_true_eq] at b;rw[bi (dY b.1),bi (dY b.2),sB c (by omega)];intro i a c b;rw[bm (qb c),eZ,c,bw];simp only[mq,decide_eq_false_iff_not] at b;by_cases d:a<0;rw[bm (eE d)];rw[bi dY,bm eE];rw[bi (vn l)];rfl;cases h
theorem aiE (x:(Int×Int×Int)×U) (y:Bool) (h:ud x=some y):ND aK x=some y:=by obtain⟨⟨k,p,n⟩,l⟩:=x;simp only[ud] at h;split at h;rename_i hl;rw[<-h];simp only[ND,rA,pH,bw];(cases hr:ci (k,p,n) with|false=>rfl|true=>have a:=jU hr;rw[bm rfl,show xy ((k,p,n),l)=some (l.all (mq (bY (k,p,n)))) from ak ⟨hr,hl⟩,bw,z7,nl,a.1];by_cases hx:l.length=ax (k,p,n);rw[ak (by rw[hx])];simp[cL,hx];rw[aq (by omega)];simp[cL,hx]);cases h
theorem ajw (x:(Int×Int×Int)×U) (y:Bool) (h:Ce x=some y):Ok aK x=some y:=by obtain⟨⟨k,p,n⟩,l⟩:=x;simp only[Ce] at h;split at h;rename_i j;obtain⟨hr,hl⟩:=j;rw[<-h];have d:=zv hr;have g:=jU hr;simp only[Ok,rD,iL];have f:vF (k,p,n)=some (bY (k,p,n)):=ak hr;rw[Lv l (fun i=>((l,l,aU (af l),(i:Int)),k,p,n)) (mq (bY (k,p,n))) (.inr false) (.inl (l,k,p,n)) ?_ ?_ ?_ ?_ fF];cases c:l.all (mq (bY (k,p,n)));rw[aq (by simp),AX];simp[cL,c];rw[ak rfl,ft,bw,F0,nl,g.1];simp only[cL,c,Bool.and_true];congr 1;exact decide_eq_decide.2 (by omega);intro i a c d;have e:decide (0<=a/\a<=bY (k,p,n))=true:=d;rw[bm (qb c),eZ,c,bw,f,bw,bw,e,bi SN,sB c (by omega)];intro i a c d;have e:decide (0<=a/\a<=bY (k,p,n))=false:=d;rw[bm (qb c),eZ,c,bw,f,bw,bw,e,bm (b:=dh false) rfl];rw[bi (vn l)];rfl;cases h
theorem ajm (x:(Int×Int×Int)×U) (y:Bool) (h:Cb x=some y):Oc aK x=some y:=by obtain⟨⟨k,p,n⟩,l⟩:=x;simp only[Cb] at h;split at h;rename_i hl;rw[<-h];simp only[Oc,ui,bw];(cases hr:ci (k,p,n) with|false=>rfl|true=>rw[bm rfl,show Ce ((k,p,n),l)=some (cL (k,p,n) l) from ak ⟨hr,hl⟩,bw];simp);cases h
theorem aqR {w:Nat} {p:Int} (h:w=1):bh (dn w (0:Int)) 0 p=[p]:=by subst h;rfl
theorem SG {r:Int×Int×Int} (hr:ci r=true):mr (jk r) (jk r) 8=some (ax r):=by have a:=jU hr;rw[a.1];exact HW (by simp only[fQ];omega)
theorem aiW (x:Int×Int×Int) (y:U) (h:UR x=some y):UT aK x=some y:=by obtain⟨k,p,n⟩:=x;simp only[UR] at h;split at h;rename_i hr;rw[<-h];simp only[UT,pH,bw];rw[SG hr,bw,z7];by_cases a:k=4;subst a;rw[ak rfl];rfl;rw[aq a,D8,de,bw,ft,j9,bw];simp only[fx];rw[aq a];cases h
theorem ajA (x:Int×Int×Int) (y:U) (h:Fk x=some y):U2 aK x=some y:=aiW x y h
theorem ac3 {w:Nat} (h:1<=w):(dw (0:Int) w=some 0)/\cP (dn w (0:Int)) (aE 0 0)=some 0:=by obtain⟨w,rfl⟩:∃v,w=v+1:=⟨w - 1,by omega⟩;exact⟨vT (i:=0) (by omega),rfl⟩
theorem afq {α:Type} {xs:List α} {n:Nat} (h:xs.length=n):d9 xs n=some xs:=by subst h;exact j9 xs
theorem aiV (x:Int×Int×Int) (y:U) (h:ue x=some y):NQ aK x=some y:=by obtain⟨k,p,n⟩:=x;simp only[ue] at h;split at h;rename_i hr;rw[<-h];have e:=jU hr;obtain⟨g,f⟩:=ac3 e.2.1;have a:∀v:Int,(bh (dn (ax (k,p,n)) (0:Int)) (aE 0 0) v).length=ax (k,p,n):=(by intro v;simp[bh,dn]);simp only[NQ,pH,bw];rw[SG hr,bw,show xz (k,p,n)=some (bY (k,p,n)) from ak hr];simp only[bw,g,f,z7,afq (a _),eW];by_cases b:k=4;rw[ak b,ak b];rfl;rw[aq b,aq b];by_cases d:k=5;subst d;rw[ak rfl,ak (.inl rfl)];rfl;rw[aq d];by_cases c:k=6;rw[ak c,ak (.inr c)];rfl;rw[aq c,aq (by omega)];rfl;cases h
theorem ajx (x:Int×Int×Int) (y:U) (h:vE x=some y):Ol aK x=some y:=by
 obtain⟨k,p,n⟩:=x;simp only[vE] at h;split at h
 ·rename_i hr;rw[<-h];have d:=jU hr;obtain⟨f,e⟩:=ac3 d.2.1;have b:∀v:Int,(bh (dn (ax (k,p,n)) (0:Int)) (aE 0 0) v).length=ax (k,p,n):=by intro v;simp[bh,dn]
  simp only[Ol,rD,bw];rw[SG hr,bw,D8,de,bw,bw,z7];have hd:(if k=5 then some (wt ((true,k),(k,p,n),dn (ax (k,p,n)) (0:Int))) else some (wt ((bR k 6,k),(k,p,n),dn (ax (k,p,n)) 0)):Option (((Bool×Int)×(Int×Int×Int)×U)⊕U))=
    some (wt ((decide (k=5\/k=6),k),(k,p,n),dn (ax (k,p,n)) 0)):=by
   by_cases a:k=5
   ·simp[a]
   ·simp[a,F0]
  rw[hd,ft];simp only[D8,CR,z7];rw[show vF (k,p,n)=some (bY (k,p,n)) from ak hr]
  simp only[bw,f,e,afq (b _),eW];by_cases c:k=4
  ·subst c;rfl
  rw[aq c];by_cases a:k=5\/k=6
  ·rw[ak a,ak a,aq c];rfl
  rw[aq a,aq a,aq c];rfl
 ·cases h
theorem BJ (w:Nat) (f:Nat->Int):(fw w f).length=w:=by simp[fw]
theorem EY {w j:Nat} (f:Nat->Int) (h:j<w):(fw w f)[j]? =some (f j):=by simp[fw,h]
theorem I0 {w:Nat} {f g:Nat->Int} (h:∀j,j<w->f j=g j):fw w f=fw w g:=GB fun j a=>h j (zay.1 a)
theorem afp {w:Nat} (f:Nat->Int) (j:Nat) (v:Int):(fw w f).set j v=fw w (fun i=>if i=j then v else f i):=by apply zae;intro i;by_cases a:i<w;rw[EY _ a];by_cases b:j=i;subst b;rw[zaH (by rw[BJ];exact a),ak rfl];rw[zbo b,EY _ a,aq (fun e=>b e.symm)];rw[IS (by rw[zbR,BJ];omega),IS (by rw[BJ];omega)]
theorem PU {x:U} {j:Nat} (h:j<x.length):x[j]? =some (cu x j):=by rw[co h];simp[cu,AI,co h]
theorem Gd {w j:Nat} (f:Nat->Int) (h:j<w):cu (fw w f) j=f j:=by simp[cu,AI,EY f h]
theorem I1 {x:U} {w:Nat} (h:x.length=w):fw w (cu x)=x:=by subst h;apply zae;intro i;by_cases a:i<x.length;rw[EY _ a,PU a];rw[IS (by rw[BJ];omega),IS (by omega)]
theorem Uq (w:Nat) (c:Int):dn w c=fw w fun _=>c:=by apply zae;intro i;by_cases a:i<w;rw[EY _ a];simp[dn,a];rw[IS (by simp[dn];omega),IS (by rw[BJ];omega)]
theorem aaq (w:Nat) (f:Nat->Int):af (fw w f)=w:=BJ w f
theorem ahf {w j:Nat} (f:Nat->Int) (h:j<w):dw (j:Int) (af (fw w f))=some j:=by rw[aaq];exact vT h
theorem Yo {w j:Nat} (f:Nat->Int) (h:j<w):cP (fw w f) (aE 0 j)=some (f j):=by rw[uu];exact EY f h
theorem arG {w:Nat} (f:Nat->Int) (j:Nat) (v:Int):bh (fw w f) (aE 0 j) v=fw w (fun i=>if i=j then v else f i):=by rw[uu];exact afp f j v
theorem Qb {x:U} {j:Nat} (h:j<x.length:=by omega):cW x (j:Int)=some (cu x j):=by rw[eZ];exact PU h
def pE (f g:Nat->Int) (i:Nat):Nat->Int:=fun j=>if j<i then f j else g j
theorem afF (w:Nat) (f g:Nat->Int):fw w (pE f g 0)=fw w g:=I0 fun j _=>aq (by omega)
theorem afG (w:Nat) (f g:Nat->Int):fw w (pE f g w)=fw w f:=I0 fun j h=>ak h
theorem afH (w:Nat) (f g:Nat->Int) (i:Nat):bh (fw w (pE f g i)) (aE 0 i) (f i)=fw w (pE f g (i+1)):=by rw[arG];refine I0 fun j _=>?_;simp only[pE];by_cases h:j=i;subst h;rw[ak rfl,ak (by omega)];rw[aq h];by_cases a:j<i;rw[ak a,ak (by omega)];rw[aq a,aq (by omega)]
theorem asG (f g:Nat->Int) (i:Nat):pE f g i i=g i:=aq (by omega)
theorem gB {r:Int×Int×Int} {x:U} (h:cL r x=true):x.length=ax r:=by simp only[cL,By,decide_eq_true_eq] at h;exact h.1
theorem rO {r:Int×Int×Int} {x:U} (h:cL r x=true) {j:Nat} (a:j<ax r):0<=cu x j/\cu x j<=bY r:=by simp only[cL,By,decide_eq_true_eq] at h;have:=zaP.1 h.2 (cu x j) (zad (PU (by rw[h.1];exact a)));simpa[mq] using this
theorem Ka {r:Int×Int×Int} {f:Nat->Int} (h:∀j,j<ax r->0<=f j/\f j<=bY r):cL r (fw (ax r) f)=true:=by simp only[cL,By,decide_eq_true_eq,BJ,true_and,zaP];intro v a;obtain⟨j,b,rfl⟩:=zbF.1 a;simpa[mq] using h j (zay.1 b)
theorem v9 {r:Int×Int×Int} {x:U} (h:cL r x=true) (b:ax r=1):x=[cu x 0]/\0<=cu x 0/\cu x 0<=bY r:=by
 have hl:=gB h;rw[b] at hl;match x,hl with
 |[a],_=>exact⟨rfl,rO h (j:=0) (by omega)⟩
theorem LZ {a p:Int} (b:0<=a:=by omega) (hp:0<p:=by omega):w6 a p=some (a%p):=by obtain⟨m,rfl⟩:=re (z:=p) (by omega);exact Iu b (by omega)
theorem anB {a b:Int} (ha:0<=a/\a<=1) (hb:0<=b/\b<=1):sx a b=((a.toNat|||b.toNat:Nat):Int):=by
 have d:a=0\/a=1:=by omega
 have c:b=0\/b=1:=by omega
 rcases d with rfl|rfl<;>rcases c with rfl|rfl<;>rfl
theorem SY {a b:Int} (d:0<=a/\a<=1048576:=by omega) (c:0<=b/\b<=1048576:=by omega):yW .i64 a b=((a.toNat|||b.toNat:Nat):Int):=by obtain⟨m,rfl⟩:=re d.1;obtain⟨n,rfl⟩:=re c.1;exact apj (by omega) (by omega)
theorem Fy {r:Int×Int×Int} {a b:Int} (c:ax r=1):eQ r [a] [b]=[gX r a b]:=by simp only[eQ,c];rfl
theorem ajv (x:(Int×Int×Int)×U×U) (z:U) (h:zI x=some z):Oj aK x=some z:=by obtain⟨⟨k,p,n⟩,x,y⟩:=x;simp only[zI] at h;split at h;rename_i l;obtain⟨hr,hx,hy⟩:=l;rw[<-h];have hT:=zv hr;have hw:=jU hr;have e:=gB hx;have hly:=gB hy;simp only[Oj,aB];rw[HW (n:=af x) (by unfold af;rw[e];simp only[fQ];omega),bw,D8,de,bw];rw[show af x=ax (k,p,n) from e];rw[iG (fun i=>((x,y,aU (ax (k,p,n)),(i:Int)),(k,p,n),fw (ax (k,p,n)) (pE (fun j=>gX (k,p,n) (cu x j) (cu y j)) (fun _=>0) i))) (r:=wt (eQ (k,p,n) x y)) (ax (k,p,n)) ?a1 ?a2 ?a3 fF];rw[ft,j9,bw];(case a3=>rw[afF,Uq];rfl);(case a2=>simp only;rw[bi (dY (show aU (ax (k,p,n))<=((ax (k,p,n):Nat):Int) from zbu _)),afG,de,bw,bw];rfl);(case a1=>intro i b;have b1:=rO hx b;have b2:=rO hy b;have fz:∀v,v=gX (k,p,n) (cu x i) (cu y i)->(some (wt ((x,y,aU (ax (k,p,n)),cH .i64 (i:Int) 1),(k,p,n),bh (fw (ax (k,p,n)) (pE (fun j=>gX (k,p,n) (cu x j) (cu y j)) (fun _=>0) i)) (aE 0 i) v)): Option (((U×U×Int×Int)×(Int×Int×Int)×U)⊕(U⊕U)))=some (wt ((x,y,aU (ax (k,p,n)),((i+1:Nat):Int)),(k,p,n),fw (ax (k,p,n)) (pE (fun j=>gX (k,p,n) (cu x j) (cu y j)) (fun _=>0) (i+1)))):=(by rintro v rfl;rw[afH (f:=fun j=>gX (k,p,n) (cu x j) (cu y j)),fb];rfl);have o:cW x (i:Int)=some (cu x i):=Qb;have m:cW y (i:Int)=some (cu y i):=Qb;generalize hf:pE (fun j=>gX (k,p,n) (cu x j) (cu y j)) (fun _=>0) i=f at fz;have d:dw (i:Int) (af (fw (ax (k,p,n)) f))=some i:=ahf _ b;have c:cP (fw (ax (k,p,n)) f) (aE 0 i)=some (f i):=Yo _ b;simp only[hf];rw[bm (eE (show(i:Int)<aU (ax (k,p,n)) by simp only[aU];omega))];rcases pt hr with⟨rfl,rfl,rfl⟩|⟨rfl,a,rfl⟩|⟨rfl,a,rfl⟩|⟨rfl,a,rfl⟩|⟨rfl,a,rfl⟩|⟨rfl,rfl,hn⟩|⟨rfl,a,hn⟩|⟨rfl,a,j3,rfl⟩<;> simp only[F0,Int.reduceEq,decide_true,decide_false,JW,FK,de,bw,ft,o,m,d,c,tO];exact fz _ (by rw[SY];rfl);have:=jR a;have g:bY (2,p,0)=p - 1:=rfl;rw[fb,LZ];simp only[bw,d,c,tO,de];exact fz _ rfl;exact fz _ (by rw[fb,HV];rfl);exact fz _ (by rw[HV];rfl);exact fz _ (by rw[aaH];rfl);exact fz _ (by rw[SY];rfl);have:=jR a;have g:bY (7,p,n)=p - 1:=rfl;rw[fb,LZ];simp only[bw,d,c,tO,de];exact fz _ rfl;have:=jR a;have g:bY (8,p,0)=p - 1:=rfl;rw[fb,LZ];simp only[bw,d,c,tO,de];exact fz _ rfl);cases h
theorem IK {f g:Nat->Int}:∀{n:Nat},(∀i,i<n->f i=g i)->sm n f=sm n g
 |0,_=>rfl
 |n+1,h=>by simp only[sm];rw[IK (n:=n) (fun i hi=>h i (by omega)),h n (by omega)]
structure NA (k p:Int) (w:Nat):Prop where
 ck:k=7\/k=8
 cp:2<=p/\p<=1000003
 cw:1<=w/\w<=6
 w8:k=8->w=4
theorem O3 {k p n:Int} (h:ci (k,p,n)=true) (c:k=7\/k=8):NA k p (ax (k,p,n)):=by have b:=jU h;refine⟨c,?_,b.2,fun e=>by subst e;rfl⟩;rcases pt h with⟨rfl,rfl,rfl⟩|⟨rfl,a,rfl⟩|⟨rfl,a,rfl⟩|⟨rfl,a,rfl⟩|⟨rfl,a,rfl⟩|⟨rfl,rfl,hn⟩|⟨rfl,a,hn⟩|⟨rfl,a,j3,rfl⟩;all_goals first|exact jR a|(exfalso;omega)
theorem yO {r:Int×Int×Int} {a b:Int} (h:¬(r.1=7\/r.1=8)):rb r [a] [b]=[kz r a b]:=by simp only[rb];rw[aq h];rfl
theorem PE {r:Int×Int×Int} {x y:U} (hx:cL r x=true) (hy:cL r y=true) (c:ax r=1):∃a b,x=[a]/\y=[b]/\(0<=a/\a<=bY r)/\0<=b/\b<=bY r:= ⟨_,_,(v9 hx c).1,(v9 hy c).1,(v9 hx c).2,(v9 hy c).2⟩
theorem FZ {r:Int×Int×Int} (hr:ci r=true):cL r (fx r)=true:=by have a:=zv hr;obtain⟨k,p,n⟩:=r;simp only[fx];split;rename_i b;subst b;simp[cL,ax,jk,bY,mq];simp[bY] at a;omega;rw[Uq];exact Ka fun j _=>⟨zbu _,a.1⟩
theorem ach (k p n:Int):eW (k,p,n)=fw (ax (k,p,n)) fun j=>if j=0 then(if k=4 then 0 else if k=5\/k=6 then bY (k,p,n) else 1) else 0:=by simp only[eW];rw[Uq];exact afp _ 0 _
theorem asA {k p n:Int} (hr:ci (k,p,n)=true):1<=bY (k,p,n):=by rcases pt hr with⟨rfl,rfl,rfl⟩|⟨rfl,b,rfl⟩|⟨rfl,b,rfl⟩|⟨rfl,b,rfl⟩|⟨rfl,b,rfl⟩|⟨rfl,rfl,hn⟩|⟨rfl,b,hn⟩|⟨rfl,b,j3,rfl⟩;simp[bY];have:=jR b;simp[bY];omega;simp[bY];omega;simp[bY];omega;simp[bY];omega;have a:(2:Nat)^1<=2^n.toNat:=zbn (by decide) (by omega);have e:(((2:Nat)^n.toNat:Nat):Int)=(2:Int)^n.toNat:=(by push_cast;rfl);simp only[bY,Int.reduceEq,reduceIte,or_self];omega;have:=jR b;simp[bY];omega;have:=jR b;simp[bY];omega
theorem rP {r:Int×Int×Int} (hr:ci r=true):cL r (eW r)=true:=by obtain⟨k,p,n⟩:=r;have h1:=asA hr;rw[ach];refine Ka fun j _=>?_;split;split;omega;split<;>omega;omega
theorem ape {r:Int×Int×Int} (hr:ci r=true) {a b:Int} (j:0<=a/\a<=bY r) (g:0<=b/\b<=bY r):0<=gX r a b/\gX r a b<=bY r:=by have hT:=zv hr;obtain⟨k,p,n⟩:=r;have f:∀c:Int,2<=p->0<=c%p/\c%p<=p - 1:=fun c h=>(by have q0:=zaU c (b:=p) (by omega);have q1:=zaD c (b:=p) (by omega);omega);rcases pt hr with⟨rfl,rfl,rfl⟩|⟨rfl,d,rfl⟩|⟨rfl,d,rfl⟩|⟨rfl,d,rfl⟩|⟨rfl,d,rfl⟩|⟨rfl,rfl,hn⟩|⟨rfl,d,hn⟩|⟨rfl,d,j3,rfl⟩;have e:bY (1,0,0)=1:=rfl;rw[e] at j g⊢;have i:a=0\/a=1:=(by omega);have l:b=0\/b=1:=(by omega);rcases i with rfl|rfl<;>rcases l with rfl|rfl<;>decide;exact f _ (jR d).1;have e:bY (3,p,0)=p:=rfl;have o:gX (3,p,0) a b=min (a+b) p:=rfl;omega;have o:gX (4,p,0) a b=min a b:=rfl;omega;have o:gX (5,p,0) a b=max a b:=rfl;omega;have e:bY (6,0,n)=2^n.toNat - 1:=rfl;have o:gX (6,0,n) a b=((a.toNat|||b.toNat:Nat):Int):=rfl;have e2:(((2:Nat)^n.toNat:Nat):Int)=(2:Int)^n.toNat:=(by push_cast;rfl);have:=Nat.or_lt_two_pow (n:=n.toNat) (x:=a.toNat) (y:=b.toNat) (by omega) (by omega);omega;exact f _ (jR d).1;exact f _ (jR d).1
theorem FY {r:Int×Int×Int} {x y:U} (hr:ci r=true) (hx:cL r x=true) (hy:cL r y=true):cL r (eQ r x y)=true:= Ka fun _ a=>ape hr (rO hx a) (rO hy a)
theorem aph {r:Int×Int×Int} (hr:ci r=true) (h:¬(r.1=7\/r.1=8)) {a b:Int} (f:0<=a/\a<=bY r) (d:0<=b/\b<=bY r):0<=kz r a b/\kz r a b<=bY r:=by have hT:=zv hr;obtain⟨k,p,n⟩:=r;simp only at h;rcases pt hr with⟨rfl,rfl,rfl⟩|⟨rfl,c,rfl⟩|⟨rfl,c,rfl⟩|⟨rfl,c,rfl⟩|⟨rfl,c,rfl⟩|⟨rfl,rfl,hn⟩|⟨rfl,c,hn⟩|⟨rfl,c,j3,rfl⟩;have e:bY (1,0,0)=1:=rfl;rw[e] at f d⊢;have g:a=0\/a=1:=(by omega);have i:b=0\/b=1:=(by omega);rcases g with rfl|rfl<;>rcases i with rfl|rfl<;>decide;have:=jR c;have o:kz (2,p,0) a b=a*b%p:=rfl;have e:bY (2,p,0)=p - 1:=rfl;have q0:=zaU (a*b) (b:=p) (by omega);have q1:=zaD (a*b) (b:=p) (by omega);omega;have e:bY (3,p,0)=p:=rfl;have o:kz (3,p,0) a b=min (a*b) p:=rfl;have:=zbq f.1 d.1;omega;have o:kz (4,p,0) a b=min (a+b) p:=rfl;have e:bY (4,p,0)=p:=rfl;omega;have o:kz (5,p,0) a b=min a b:=rfl;omega;have o:kz (6,0,n) a b=((a.toNat&&&b.toNat:Nat):Int):=rfl;have:=Nat.and_le_left (n:=a.toNat) (m:=b.toNat);omega;omega;omega
theorem ahO {r:Int×Int×Int} {x y:U} (hr:ci r=true) (hx:cL r x=true) (hy:cL r y=true):cL r (rb r x y)=true:=by by_cases d:r.1=7\/r.1=8;simp only[rb];rw[ak d];obtain⟨k,p,n⟩:=r;have c:=O3 hr d;have o:bY (k,p,n)=p - 1:=(by simp only at d;simp only[bY];rw[aq (by omega),aq (by omega),aq (by omega)]);refine Ka fun j _=>?_;rw[o];have:=c.cp;have m:=zaU (sm (ax (k,p,n)) fun i=>sm (ax (k,p,n)) fun e=>kW (decide (k=8)) (cu x) (cu y) j i e) (b:=p) (by omega);have l:=zaD (sm (ax (k,p,n)) fun i=>sm (ax (k,p,n)) fun e=>kW (decide (k=8)) (cu x) (cu y) j i e) (b:=p) (by omega);exact⟨m,Int.le_sub_one_of_lt l⟩;have f:ax r=1:=(by obtain⟨k,p,n⟩:=r;simp only at d;simp only[ax,jk];rw[aq (by omega),aq (by omega)];rfl);obtain⟨a,b,rfl,rfl,g,h⟩:=PE hx hy f;rw[yO d];have:=aph hr d g h;simp[cL,f,mq,this]
def ch:Nat->Nat->Nat
 |_,0=>1
 |0,_+1=>0
 |n+1,k+1=>ch n k+ch n (k+1)
theorem JL:∀{n k:Nat},n<k->ch n k=0
 |0,k+1,_=>by simp[ch]
 |n+1,k+1,h=>by simp[ch,JL (show n<k by omega),JL (show n<k+1 by omega)]
theorem FG (n:Nat):ch n 0=1:=by cases n<;>rfl
theorem VP:∀n,ch n n=1
 |0=>rfl
 |n+1=>by simp[ch,VP n,JL (zbN n)]
theorem JM:∀(n k:Nat),(k+1)*ch (n+1) (k+1)=(n+1)*ch n k
 |0,0=>by simp[ch]
 |0,k+1=>by simp[ch]
 |n+1,0=>by have h:=JM n 0;simp only[FG] at h⊢;have e:ch (n+1+1) (0+1)=ch (n+1) 0+ch (n+1) (0+1):=rfl;rw[e,FG];omega
 |n+1,k+1=>by have h1:=JM n k;have h2:=JM n (k+1);have b:ch (n+1+1) (k+1+1)=ch (n+1) (k+1)+ch (n+1) (k+1+1):=rfl;have a:ch (n+1) (k+1)=ch n k+ch n (k+1):=rfl;rw[b];generalize ch (n+1) (k+1+1)=B at*;generalize ch (n+1) (k+1)=A at*;generalize ch n k=u at*;generalize ch n (k+1)=v at*;subst a;grind
def pB (f:Nat->Nat):Nat->Nat
 |0=>0
 |m+1=>pB f m+f m
theorem afj (n a:Nat):∀m,pB (fun k=>ch (n+1) k*a^k) (m+1)=pB (fun k=>ch n k*a^k) (m+1)+a*pB (fun k=>ch n k*a^k) m
 |0=>by simp[pB,FG]
 |m+1=>by have h:=afj n a m;simp only[pB] at h⊢;have e:ch (n+1) (m+1)=ch n m+ch n (m+1):=rfl;rw[h,e,zbi];grind
theorem VE (a:Nat):∀n,(a+1)^n=pB (fun k=>ch n k*a^k) (n+1)
 |0=>by simp[pB,FG]
 |n+1=>by rw[afj];have e:pB (fun k=>ch n k*a^k) (n+1+1)=pB (fun k=>ch n k*a^k) (n+1):=(by show pB _ (n+1)+ch n (n+1)*a^(n+1)=_;rw[JL (zbN n)];simp);rw[e,<-VE a n,zbi];grind
theorem afi {p:Nat} {f:Nat->Nat}:∀m,(∀k,0<k->k<=m->p∣f k)->pB f (m+1)%p=f 0%p
 |0,h=>by simp[pB]
 |m+1,h=>by have i:=afi m fun k b h2=>h k b (by omega);obtain⟨c,a⟩:=h (m+1) (by omega) (zac _);show(pB f (m+1)+f (m+1))%p=_;rw[a,za4,i]
def zM (p:Nat):Prop:=2<=p/\∀d,d∣p->d=1\/d=p
theorem zM.CV {p a:Nat} (c:zM p) (h:¬p∣a):Nat.Coprime p a:=by have:=c.2 (Nat.gcd p a) (Nat.gcd_dvd_left p a);rcases this with b|b;exact b;exact absurd (b▸Nat.gcd_dvd_right p a) h
theorem zM.ch {p k:Nat} (a:zM p) (h1:0<k) (h2:k<p):p∣ch p k:=by obtain⟨q,rfl⟩:∃q,p=q+1:=⟨p - 1,by omega⟩;obtain⟨j,rfl⟩:∃j,k=j+1:=⟨k - 1,by omega⟩;have hm:=JM q j;have hd:(q+1)∣(j+1)*Go.Am.ch (q+1) (j+1):=⟨Go.Am.ch q j,hm⟩;exact(a.CV fun h=>absurd (zb3 (by omega) h) (by omega)).dvd_of_dvd_mul_left hd
theorem WX {p:Nat} (b:zM p):∀a,a^p%p=a%p
 |0=>by rw[Nat.zero_pow (by have:=b.1;omega)]
 |a+1=>by rw[VE];show(pB _ p+Go.Am.ch p p*a^p)%p=_;obtain⟨q,rfl⟩:∃q,p=q+1:=⟨p - 1,by have:=b.1;omega⟩;have h:=afi (p:=q+1) (f:=fun k=>Go.Am.ch (q+1) k*a^k) q fun k c h2=>Nat.dvd_trans (b.ch c (by omega)) (Nat.dvd_mul_right _ _);rw[VP,zaJ,zcf,h,WX b a];simp only[FG,Nat.pow_zero,zbX];rw[<-zcf,zb9]
theorem ajM {p a:Nat} (b:zM p) (d:¬p∣a):a*a^(p - 2)%p=1:=by have h2:=b.1;have h:=WX b a;have e:a^p=a*(a*a^(p - 2)):=(by obtain⟨q,rfl⟩:∃q,p=q+2:=⟨p - 2,by omega⟩;rw[zbi,zbi,zbz];rw[zag a (a^q),zag a (a^q*a)]);rw[e] at h;have f:0<a:=(by rcases za1 a with h|h;subst h;exact absurd ⟨0,by simp⟩ d;exact h);have g:0<a*a^(p - 2):=zce f (Nat.pow_pos f);generalize a*a^(p - 2)=z at h g⊢;obtain⟨y,rfl⟩:∃y,z=y+1:=⟨z - 1,by omega⟩;have hd:p∣a*y:=(by have e:a*(y+1)=a*y+a:=(by rw[Nat.mul_add,zbX]);rw[e] at h;have:(a*y+a - a)%p=0:=Nat.sub_mod_eq_zero_of_mod_eq h;rw[zbz] at this;exact Nat.dvd_of_mod_eq_zero this);obtain⟨c,rfl⟩:=(b.CV d).dvd_of_dvd_mul_left hd;rw[zb9,za4];exact zba (by omega)
theorem alO {p:Int} (h:gS p=true):zM p.toNat:=by have hp:=jR h;obtain⟨n,rfl⟩:=re (show 0<=p by omega);simp only[If];refine⟨by omega,fun d hd=>?_⟩;rcases zbj d 2 with j|j;rcases za1 d with c|c;subst c;have:=Nat.eq_zero_of_zero_dvd hd;omega;exact .inl (by omega);obtain⟨e,g⟩:=hd;simp only[gS,By,decide_eq_true_eq,zbB,zbD] at h;have k:∀a b:Nat,2<=a->2<=b->a<=b->n≠a*b:=(by intro a b ha hb m e;have h1:a*a<=n:=(by rw[e];exact zbv _ m);have f:a<1001:=(by rcases zbj a 1001 with h|h;exact h;have:=zbp h h;omega);refine h.2 a (by simp;omega) ?_;unfold rK;have l:((a:Int))*(a:Int)=((a*a:Nat):Int):=(by norm_cast);simp only[By,decide_eq_true_eq];constructor;rw[l];omega;rw[e];push_cast;exact Int.mul_emod_right _ _);right;rcases zbj e 2 with f|f;have:e=1:=(by rcases za1 e with c|c;subst c;simp at g;omega;omega);subst this;omega;exfalso;rcases Nat.le_total d e with i|i;exact k d e j f i g;exact k e d f j i (by rw[g,zag])
theorem acE (x:Int) (b:Nat):∀m:Nat,(x*x)^m*x^b=x^(2*m+b)
 |0=>by simp
 |m+1=>by have a:=acE x b m;rw[show 2*(m+1)+b=2*m+b+1+1 by omega,zaM,zaM (n:=2*m+b+1),zaM (n:=2*m+b),<-a];grind
theorem alJ {p:Int} (hp:ph p):∀(n:Nat) (out x:Int),vg p out x n%p=out*x^n%p:=by intro n;induction n using Nat.strongRecOn with|ind n b=>intro out x;by_cases c:n=0;subst c;rw[alI];simp;rw[alK c,b (n/2) (by omega)];have e:x^n=(x*x)^(n/2)*x^(n%2):=(by rw[acE,zaX]);rw[e];have d:((x*x%p)^(n/2))%p=((x*x)^(n/2))%p:=(by have:∀k:Nat,((x*x%p)^k)%p=((x*x)^k)%p:=(by intro k;induction k with|zero=>simp|succ k b=>rw[zaM,zaM,zaf,b,zaG,<-zaf]);exact this _);by_cases a:n%2=1;rw[ak a,a,zaf,d,zaG,<-zaf];congr 1;grind;rw[aq a,show n%2=0 by omega,zaf,d,<-zaf];congr 1;grind
theorem alM {p x:Int} (c:gS p=true) (hx:sf p x) (h0:x≠0):x*vg p 1 x (p - 2).toNat%p=1:=by have d:=jR c;have i:ph p:=⟨d.1,d.2⟩;obtain⟨n,rfl⟩:=re (show 0<=p by omega);obtain⟨a,rfl⟩:=re hx.1;have b:=alO c;simp only[If] at b;have g:¬n∣a:=fun h=>(by have:=zb3 (by omega) h;have:=hx.2;omega);have f:=ajM b g;have e:(((n:Int)) - 2).toNat=n - 2:=(by omega);rw[zaf,alJ i,e,zbt,<-zaf];exact_mod_cast f
def iz (f g:Nat->Int):Nat->Int
 |0=>0
 |n+1=>iz f g n+f n*g n
theorem afg {p:Int} {f f' g:Nat->Int}:∀n,(∀k,k<n->∃q,f k=f' k+p*q)->∃q,iz f g n=iz f' g n+p*q
 |0,_=>⟨0,by simp[iz]⟩
 |n+1,h=>by obtain⟨q,c⟩:=afg (g:=g) n fun k hk=>h k (by omega);obtain⟨b,a⟩:=h n (by omega);exact⟨q+b*g n,by simp only[iz,c,a];grind⟩
theorem Ug (f a g:Nat->Int) (c:Int):∀n,iz (fun k=>f k+c*a k) g n=iz f g n+c*iz a g n
 |0=>by simp[iz]
 |n+1=>by simp only[iz,Ug f a g c n];grind
theorem Na (f g a:Nat->Int) (c:Int):∀n,iz f (fun k=>g k - c*a k) n=iz f g n - c*iz f a n
 |0=>by simp[iz]
 |n+1=>by simp only[iz,Na f g a c n];grind
theorem Uh (f g:Nat->Int) (c:Int):∀n,iz (fun k=>f k*c) g n=iz f g n*c
 |0=>by simp[iz]
 |n+1=>by simp only[iz,Uh f g c n];grind
theorem Ui (f g:Nat->Int) (c:Int):∀n,iz f (fun k=>g k*c) n=iz f g n*c
 |0=>by simp[iz]
 |n+1=>by simp only[iz,Ui f g c n];grind
def dl (a b:Nat):Int:=if a=b then 1 else 0
def mZ (p:Int) (n:Nat) (E X:ed):Prop:=∀a,a<n->∀b,b<n->∃q,iz (E a) (fun k=>X k b) n=dl a b+p*q
theorem mZ.congr {p:Int} {n:Nat} {E c X:ed} (h:mZ p n E X) (j:∀a,a<n->∀k,k<n->∃q,c a k=E a k+p*q):mZ p n c X:=by intro a d b i;obtain⟨q,m⟩:=h a d b i;obtain⟨l,e⟩:=afg (p:=p) (f:=c a) (f':=E a) (g:=fun k=>X k b) n (j a d);exact⟨q+l,by rw[e,m];grind⟩
theorem mZ.swap {p:Int} {n:Nat} {E X:ed} (h:mZ p n E X) {s t:Nat} (o:s<n) (w:t<n):∃m,mZ p n (qk E s t) m:=by
 let c:Nat->Nat:=fun i=>if i=s then t else if i=t then s else i
 have f:∀i,i<n->c i<n:=by
  intro i l;show(if i=s then t else if i=t then s else i)<n
  split
  ·exact w
  ·split
   ·exact o
   ·exact l
 have r:∀i j,c i=c j->i=j:=by
  intro i j;show(if i=s then t else if i=t then s else i)=(if j=s then t else if j=t then s else j)->i=j
  intro h
  repeat' split at h
  all_goals omega
 refine⟨fun k b=>X k (c b),fun a u b g=>?_⟩;obtain⟨q,v⟩:=h (c a) (f a u) (c b) (f b g);refine⟨q,?_⟩;have e:qk E s t a=E (c a):=by
  funext k;show(if a=s then E t k else if a=t then E s k else E a k)=E (if a=s then t else if a=t then s else a) k
  split
  ·rfl
  ·split<;>rfl
 rw[e,v];congr 1;unfold dl;by_cases d:a=b
 ·subst d;simp
 ·rw[aq d,aq fun h=>d (r _ _ h)]
theorem mZ.ars {p inv u:Int} {n:Nat} {E X:ed} (h:mZ p n E X) {t:Nat} (ht:t<n) (hu:u*inv%p=1):∃j,mZ p n (Bp p inv E t) j:=by
 have l:∃z,u*inv=1+p*z:=⟨u*inv/p,by have:=zaN (u*inv) p;omega⟩;obtain⟨z,hz⟩:=l;refine⟨fun k b=>if b=t then X k t*u else X k b,mZ.congr (E:=fun a k=>if a=t then E t k*inv else E a k) (fun a g b i=>?_) (fun a g k hk=>?_)⟩
 ·obtain⟨q,f⟩:=h a g b i;by_cases c:a=t
  ·subst c;by_cases d:b=a
   ·subst d;refine⟨z+q*inv*u,?_⟩;simp only[if_true];rw[Uh,Ui,f,dl,ak rfl]
    grind
   ·refine⟨q*inv,?_⟩;simp only[if_true,aq d];rw[Uh,f,dl,aq (Ne.symm d)]
    grind
  ·by_cases d:b=t
   ·subst d;refine⟨q*u,?_⟩;simp only[aq c,if_true];rw[Ui];have:iz (fun k=>E a k) (fun k=>X k b) n=dl a b+p*q:=f;rw[this,dl,aq c]
    grind
   ·refine⟨q,?_⟩;simp only[aq c,aq d];exact f
 ·unfold Bp;by_cases c:a=t
  ·simp only[c,if_true];refine⟨-(E t k*inv/p),?_⟩;have:=zaN (E t k*inv) p;have e:p* -(E t k*inv/p)= -(p*(E t k*inv/p)):=zbY _ _;omega
  ·simp only[c,if_false];exact⟨0,by simp⟩
theorem mZ.add {p f:Int} {n:Nat} {E w X:ed} (h:mZ p n E X) {m t:Nat} (hm:m<n) (z:t<n) (v:m≠t) (B:∀a,a<n->∀k,k<n->∃q,w a k=(if a=m then E m k+f*E t k else E a k)+p*q):∃C,mZ p n w C:=by
 refine⟨fun k b=>if b=t then X k t - f*X k m else X k b,mZ.congr (E:=fun a k=>if a=m then E m k+f*E t k else E a k) (fun a y b r=>?_) B⟩
 obtain⟨d,G⟩:=h a y b r;obtain⟨j,J⟩:=h t z b r;obtain⟨o,A⟩:=h a y m hm;obtain⟨x,F⟩:=h t z m hm;have g:iz (fun k=>E a k) (fun k=>X k b) n=dl a b+p*d:=G;have u:iz (fun k=>E t k) (fun k=>X k b) n=dl t b+p*j:=J;have s:iz (fun k=>E a k) (fun k=>X k m) n=dl a m+p*o:=A;have l:iz (fun k=>E t k) (fun k=>X k m) n=dl t m+p*x:=F;have I:dl t m=0:=aq (Ne.symm v);by_cases i:a=m
 ·subst i;have H:dl a a=1:=ak rfl;by_cases c:b=t
  ·subst c;have e:dl a b=0:=aq v;have D:dl b b=1:=ak rfl;refine⟨d+f*j - f*o - f*f*x,?_⟩;simp only[if_true];rw[Ug,Na,Na,g,u,s,l,I,H,e,D]
   grind
  ·refine⟨d+f*j,?_⟩;have e:dl t b=0:=aq (Ne.symm c);simp only[if_true,aq c];rw[Ug,g,u,e]
   grind
 ·by_cases c:b=t
  ·subst c;have e:dl a m=0:=aq i;refine⟨d - f*o,?_⟩;simp only[aq i,if_true];rw[Na,g,s,e]
   grind
  ·refine⟨d,?_⟩;simp only[aq i,aq c];exact g
def RK (p:Int) (n:Nat) (s:ed×U×Int) (j:Nat):Prop:=
 (∃X,mZ p n (fun a k=>s.1 a (n+k)) X)/\∀b,b<j->∀i,s.2.1.length<=i->i<n->s.1 i b=0
theorem RK.step {p:Int} {n:Nat} {s:ed×U×Int} {j:Nat} (J:gS p=true) (V:j<2*n) (I:RI p n (2*n) s j) (h:RK p n s j):RK p n (w5 p n s j) (j+1):=by
 have S:ph p:=jR J;obtain⟨⟨X,o⟩,g⟩:=h;obtain⟨M,L,d⟩:=s;simp only at o g;by_cases hl:L.length<n
 ·cases hk:wZ M j (n - L.length) L.length with
  |none=>
   rw[aqJ (s:=(M,L,d)) hl hk];refine⟨⟨X,o⟩,fun b x i e l=>?_⟩;by_cases z:b=j
   ·subst z;exact acz hk i e (by simp only at e;omega)
   ·exact g b (by omega) i e l
  |some k=>
   rw[aqK (s:=(M,L,d)) hl hk];simp only
   have N:=S6 hk;have r:k<n:=by omega
   have H:qZ p n (2*n) M:=I.m;have hx:sf p (M k j):=H k r j V;have T:qk M L.length k L.length j=M k j:=ak rfl;have A:=alM J hx N.2.2;generalize akm:vg p 1 (M k j) (p - 2).toNat=inv at A;have E:Ih p M L.length j k=Bp p inv (qk M L.length k) L.length:=by unfold Ih;rw[T,akm]
   rw[E];have R:qZ p n (2*n) (qk M L.length k):=afk H hl r;generalize De:Bp p inv (qk M L.length k) L.length=M2;have atb:qZ p n (2*n) M2:=by rw[<-De];exact aeA S R _
   constructor
   ·obtain⟨X1,v⟩:=o.swap (s:=L.length) (t:=k) hl r;obtain⟨K,w⟩:=v.ars (inv:=inv) (u:=M k j) hl A;have zT:mZ p n (fun a b=>kl p M2 L.length j 0 a (n+b)) K:=by
     rw[ahh,<-De];exact w
    have Q:∀m,m<=n->∃B,mZ p n (fun a b=>kl p M2 L.length j m a (n+b)) B:=by
     intro m;induction m with
     |zero=>intro _;exact⟨K,zT⟩
     |succ m W=>
      intro hm;obtain⟨B,G⟩:=W (by omega);by_cases y:m=L.length
      ·subst y;rw[ahk];exact⟨B,G⟩
      ·refine G.add (f:=p - M2 m j) (m:=m) (t:=L.length) (by omega) hl y fun a ha b x=>?_;show∃q,kl p M2 L.length j (m+1) a (n+b)=_;by_cases P:a=m
       ·subst P;rw[ak rfl];show∃q,kl p M2 L.length j (a+1) a (n+b)=(kl p M2 L.length j a a (n+b)+(p - M2 a j)*kl p M2 L.length j a L.length (n+b))+p*q;rw[ahj,ahl];unfold kl;rw[ak ⟨by omega,y⟩];refine⟨-((M2 a (n+b)+(p - M2 a j)*M2 L.length (n+b))/p),?_⟩;have e1:=zaN (M2 a (n+b)+(p - M2 a j)*M2 L.length (n+b)) p;have O:=zbY p ((M2 a (n+b)+(p - M2 a j)*M2 L.length (n+b))/p);omega
       ·rw[aq P];refine⟨0,?_⟩;show kl p M2 L.length j (m+1) a (n+b)=kl p M2 L.length j m a (n+b)+p*0;unfold kl;by_cases C:a<m/\a≠L.length
        ·rw[ak C,ak ⟨by omega,C.2⟩];simp
        ·rw[aq C,aq (by omega)];simp
    exact Q n (zac _)
   ·intro b x i e l;simp only[zah,OF,zaF] at e;show kl p M2 L.length j n i b=0;unfold kl;rw[ak ⟨l,by omega⟩];have O:∀c,M2 i c=qk M L.length k i c:=fun c=>by rw[<-De];exact aq (by omega)
    have F:∀c,M2 L.length c=M k c*inv%p:=fun c=>by rw[<-De];show(if L.length=L.length then _ else _)=_;rw[ak rfl];congr 2;exact ak rfl
    by_cases z:b=j
    ·subst z;rw[F b,A];have:M2 i b+(p - M2 i b)*1=p:=by omega
     rw[this];exact Int.emod_self
    ·have D:b<j:=by omega
     rw[F b,g b D k N.1 r,O b];have:qk M L.length k i b=0:=by
      unfold qk;rw[aq (by omega)];split
      ·exact g b D L.length (zac _) hl
      ·exact g b D i (by omega) l
     rw[this];simp
 ·unfold w5;rw[aq hl];exact⟨⟨X,o⟩,fun b x i e l=>by simp only at e;omega⟩
def asW (n:Nat) (M:ed):ed:=fun a b=>if b<n then M a b else dl a (b - n)
def asX (n:Nat) (M:ed):ed:=ofD (2*n) (Yl n (2*n) (asW n M))
def ZL (p:Int) (n:Nat) (M:ed):ed×U×Int:=acX p n (asX n M) (2*n)
def alL (p:Int) (n:Nat) (M:ed):Prop:=∀i,i<n->(ZL p n M).2.1.getD i 0=(i:Int)
instance (p:Int) (n:Nat) (M:ed):Decidable (alL p n M):=inferInstanceAs (Decidable (∀i,i<n->(ZL p n M).2.1.getD i 0=(i:Int)))
section
variable {p:Int} {n:Nat} {M R:ed} {L:U}
end
section
variable {p:Int} {n:Nat} {M R:ed} {L:U}
end
abbrev kK:=Int×Int×U
abbrev Nz:=Int×Int×U×List (Int×Int×U)×U
def Nr (k:Nat) (w:U):Prop:=∀c∈w,0<=c/\c<(k:Int)
instance (k:Nat) (w:U):Decidable (Nr k w):=inferInstanceAs (Decidable (∀c∈w,0<=c/\c<(k:Int)))
def agG (x:Nz):Bool:=match x with
 |(m,n,a,ms,b)=>gS m&&(decide (0<=n/\n<=24)&&((L5 m a&&decide ((a.length:Int)=n))&&((L5 m b&&decide ((b.length:Int)=n))&&(decide (1<=ms.length/\ms.length<=4)&&ms.all fun y=>decide (y.1=n/\y.2.1=n/\y.2.2.length=n.toNat*n.toNat)&&L5 m y.2.2))))
def acT (x:Nz×U):Prop:=agG x.1=true/\Nr x.1.2.2.2.1.length x.2/\x.2.length<=1048576
instance (x:Nz×U):Decidable (acT x):=by unfold acT;infer_instance
structure Fh (N:Nat) (p:Int) (n:Nat) (a:U) (ms:List kK) (b:U):Prop where
 pr:gS p=true
 hn:n<=N
 al:a.length=n
 ap:td p a
 bl:b.length=n
 bp:td p b
 l1:1<=ms.length
 l4:ms.length<=4
 hm:∀x∈ms,∃M:ed,x=((n:Int),(n:Int),Yl n n M)/\qZ p n n M
abbrev af8:=Fh 12
abbrev af7:=Fh 24
theorem Fh.p {N:Nat} {p:Int} {n:Nat} {a b:U} {ms:List kK} (h:Fh N p n a ms b):ph p:=jR h.pr
theorem Fh.b {p:Int} {n:Nat} {a b:U} {ms:List kK} (h:af8 p n a ms b):af7 p n a ms b:=⟨h.pr,zbI h.hn (by omega),h.al,h.ap,h.bl,h.bp,h.l1,h.l4,h.hm⟩
section
variable {p:Int} {n:Nat} {a b:U} {ms:List kK}
end
section
variable {p:Int} {n m:Nat} {a b a2 b2:U} {ms SJ:List kK}
end
section
variable {p sg:Int} {n m:Nat} {a b a2 b2:U} {ms SJ:List kK}
end
section
variable {n:Int} {d:List (Int×Int)} {a b:Int}
end
def rh (b a:Int) (l:U):U:=l.map fun x=>if x=b then a else x
def xL (l:U) (i:Int):Int:=l.getD i.toNat 0
def yt (n:Nat):U:=(zai n).map fun i=>((i:Nat):Int)
def Ej (s:Nat) (i:Nat) (st:Int×U) (e:Int×Int):Int×U:=
 if s.testBit i=true/\xL st.2 e.1≠xL st.2 e.2 then(st.1 - 1,rh (xL st.2 e.2) (xL st.2 e.1) st.2) else st
def parts (n:Int) (es:List (Int×Int)) (s:Int):Int×U:=uI (Ej s.toNat) 0 (n,yt n.toNat) es
def Sk (s:Nat) (i:Nat) (l:U) (e:Int×Int):U:=
 if s.testBit i=true then rh (max (xL l e.1) (xL l e.2)) (min (xL l e.1) (xL l e.2)) l else l
def PR (l:U):Int:=((zai l.length).countP fun i=>l.getD i 0==(i:Int):Nat)
theorem R3 (n:Nat):(yt n).length=n:=by simp[yt]
theorem Tg (b a:Int) (l:U):(rh b a l).length=l.length:=by simp[rh]
theorem V8 (p:Nat->Bool) (j:Nat):(zai (j+1)).countP p=(zai j).countP p+(if p j=true then 1 else 0):=by rw[zbW,List.countP_append,List.countP_singleton]
theorem V7 (p q:Nat->Bool) (k:Nat):∀n,k<n->(∀i,i<n->i≠k->p i=q i)->p k=true->q k=false->(zai n).countP p=(zai n).countP q+1
 |0,h,_,_,_=>by omega
 |n+1,h,Q1,h1,h2=>by rw[V8,V8];by_cases b:k=n;subst b;rw[h1,h2];have:(zai k).countP p=(zai k).countP q:=List.countP_congr fun i a=>(by have:=zay.1 a;rw[Q1 i (by omega) (by omega)]);rw[this];simp;rw[V7 p q k n (by omega) (fun i a=>Q1 i (by omega)) h1 h2,Q1 n (by omega) (by omega)];omega
structure Ft (m:Nat) (l:U) (c:Int) (q:U):Prop where
 ll:l.length=m
 lq:q.length=m
 ig:∀i j:Nat,i<m->j<m->(l.getD i 0=l.getD j 0↔q.getD i 0=q.getD j 0)
 low:∀i:Nat,i<m->0<=l.getD i 0/\l.getD i 0<=(i:Int)/\l.getD (l.getD i 0).toNat 0=l.getD i 0
 cD:PR l=c
theorem ac2 {b a:Int} {l:U} {i:Nat} (h:i<l.length):(rh b a l).getD i 0=if l.getD i 0=b then a else l.getD i 0:=by simp[rh,zb8,zab,co h]
theorem aqP (b:Int) (l:U):rh b b l=l:=by
 unfold rh
 conv=>rhs;rw[<-List.map_id l]
 refine GB fun x _=>?_;split
 ·rename_i h;exact h.symm
 ·rfl
theorem aaL {b a x y:Int}:((if x=b then a else x)=(if y=b then a else y))↔(x=y\/((x=b\/x=a)/\(y=b\/y=a))):=by constructor;intro h;split at h<;>split at h<;>omega;intro h;split<;>split<;>omega
theorem Ft.step {m:Nat} {l:U} {c:Int} {q:U} (h:Ft m l c q) {u v:Nat} (n:u<m) (k:v<m) {s i:Nat}:
  Ft m (Sk s i l ((u:Int),(v:Int))) (Ej s i (c,q) ((u:Int),(v:Int))).1 (Ej s i (c,q) ((u:Int),(v:Int))).2:=by
 cases f:s.testBit i with
 |false=>
  have w:Sk s i l ((u:Int),(v:Int))=l:=aq (by rw[f];decide);have D:Ej s i (c,q) ((u:Int),(v:Int))=(c,q):=aq (fun o=>by rw[f] at o;exact absurd o.1 (by decide));rw[w,D];exact h
 |true=>
  have V:q.getD u 0=q.getD v 0->Ej s i (c,q) ((u:Int),(v:Int))=(c,q):=fun h=>aq (fun o=>o.2 h);have P:q.getD u 0≠q.getD v 0->Ej s i (c,q) ((u:Int),(v:Int))=(c - 1,rh (q.getD v 0) (q.getD u 0) q):=fun h=>ak ⟨f,h⟩;have N:Sk s i l ((u:Int),(v:Int))=rh (max (l.getD u 0) (l.getD v 0)) (min (l.getD u 0) (l.getD v 0)) l:=ak f;obtain⟨ll,lq,ig,low,cD⟩:=h;by_cases p:q.getD u 0=q.getD v 0
  ·have hl:=(ig u v n k).2 p;rw[V p,N,hl,Int.max_self,Int.min_self,aqP];exact⟨ll,lq,ig,low,cD⟩
  ·have hl:l.getD u 0≠l.getD v 0:=fun e=>p ((ig u v n k).1 e);rw[P p,N];obtain⟨I,H,t⟩:=low u n;obtain⟨E,z,A⟩:=low v k;obtain⟨lo,d,w,D,cm,K,C,R,J,L⟩:∃lo d:Nat,min (l.getD u 0) (l.getD v 0)=(lo:Int)/\max (l.getD u 0) (l.getD v 0)=(d:Int)/\lo<d/\
     (∀x:Int,(x=(d:Int)\/x=(lo:Int))↔(x=l.getD v 0\/x=l.getD u 0))/\lo<m/\l.getD lo 0=(lo:Int)/\l.getD d 0=(d:Int)/\d<m:=by
    obtain⟨a,B⟩:=re I;obtain⟨b,f⟩:=re E;rw[B,If] at t;rw[f,If] at A;rw[B] at H hl;rw[f] at z hl;rw[B,f];rcases zbj a b with O|O
    ·exact⟨a,b,by omega,by omega,O,fun x=>by omega,by omega,t,A,by omega⟩
    ·exact⟨b,a,by omega,by omega,by omega,fun x=>by omega,by omega,A,t,by omega⟩
   rw[w,D];have g:∀j,j<m->(rh (d:Int) (lo:Int) l).getD j 0=if l.getD j 0=(d:Int) then(lo:Int) else l.getD j 0:=fun j G=>ac2 (by omega)
   have M:∀j,j<m->(rh (q.getD v 0) (q.getD u 0) q).getD j 0=if q.getD j 0=q.getD v 0 then q.getD u 0 else q.getD j 0:=fun j G=>ac2 (by omega)
   refine⟨by rw[Tg];exact ll,by rw[Tg];exact lq,?_,?_,?_⟩
   ·intro x y hx hy;rw[g x hx,g y hy,M x hx,M y hy,aaL,aaL,K,K,ig x y hx hy,ig x u hx n,ig x v hx k,ig y u hy n,ig y v hy k]
   ·intro x hx;obtain⟨T,S,W⟩:=low x hx;rw[g x hx];by_cases F:l.getD x 0=(d:Int)
    ·rw[ak F];refine⟨by omega,by omega,?_⟩;rw[If,g lo C,R,aq (by omega)]
    ·rw[aq F];refine⟨T,S,?_⟩;rw[g _ (by omega),W,aq F]
   ·have Q:=V7 (fun j=>l.getD j 0==(j:Int)) (fun j=>(rh (d:Int) (lo:Int) l).getD j 0==(j:Int)) d m L ?_ (by rw[J];simp) (by rw[g d L,ak J];simp;omega)
    ·unfold PR at cD⊢;rw[Tg,ll];rw[ll,Q] at cD;omega
    ·intro j G aJ;rw[g j G];by_cases r:l.getD j 0=(d:Int)
     ·rw[ak r,r,zbO];simp only[beq_iff_eq];constructor
      ·intro h;omega
      ·intro h;have:lo=j:=by omega
       subst this;omega
     ·rw[aq r]
theorem R1 {m i:Nat} (h:i<m):(yt m).getD i 0=(i:Int):=by simp[yt,zb8,zab,zaW h]
theorem Ft.init (m:Nat):Ft m (yt m) (m:Int) (yt m):=by refine⟨R3 m,R3 m,fun _ _ _ _=>Iff.rfl,fun i a=>?_,?_⟩;rw[R1 a,If,R1 a];omega;unfold PR;rw[R3];have:(zai m).countP (fun i=>(yt m).getD i 0==(i:Int))=(zai m).length:=(by rw[List.countP_eq_length];intro i a;rw[R1 (zay.1 a)];simp);rw[this,List.length_range]
def JZ (r:Int×Int×Int) (g:Int×List (Int×Int)) (x:U):Bool:=ci r&&(rU g.1 g.2&&cL r x)
def tW (r:Int×Int×Int) (g:Int×List (Int×Int)) (q:Int) (x:U):Bool:=JZ r g x&&decide (1<=q/\q<=4)
def BW:(Int×Int×Int)×(Int×List (Int×Int))×Int×U->Option Bool:=fun((r,g,q,x):(Int×Int×Int)×(Int×List (Int×Int))×Int×U)=>if x.length<=9223372036854775806 then some (tW r g q x) else none
def Ci:(Int×Int×Int)×(Int×List (Int×Int))×Int×U->Option Bool:=fun((r,g,q,x):(Int×Int×Int)×(Int×List (Int×Int))×Int×U)=>if x.length<=9223372036854775806 then some (tW r g q x) else none
def NS (NN:Nat):((Int×(Int×Int))×((Int×(List (Int×Int)))×(Int×U)))->(Option Bool):=
 (fun(((i0,i1,i2),(i3,l4),i5,l6):((Int×(Int×Int))×((Int×(List (Int×Int)))×(Int×U))))=>
 (rA (i0,i1,i2)).ae (fun b7=>
 au (b7)
 ((BP (i3,l4)).ae (fun b8=>
 au (b8)
 ((ud ((i0,i1,i2),l6)).ae (fun b9=>
 au (b9)
 (au (gO (1:Int) i5)
 (some (gO i5 (4:Int)))
 (some false))
 (some false)))
 (some false)))
 (some false)))
def Ov (NN:Nat):((Int×(Int×Int))×((Int×(List (Int×Int)))×(Int×U)))->(Option Bool):=
 (fun(((i0,i1,i2),(i3,l4),i5,l6):((Int×(Int×Int))×((Int×(List (Int×Int)))×(Int×U))))=>
 (Cb ((i0,i1,i2),l6)).ae (fun b7=>
 au (b7)
 ((Cc (i3,l4)).ae (fun b8=>
 au (b8)
 ((iL (i5,(1:Int),(4:Int))).ae (fun b9=>
 some b9))
 (some false)))
 (some false)))
theorem aiX (x:(Int×Int×Int)×(Int×List (Int×Int))×Int×U) (z:Bool) (h:BW x=some z):NS aK x=some z:=by
 obtain⟨⟨k,p,n⟩,⟨b,es⟩,q,x⟩:=x;simp only[BW] at h;split at h
 ·rename_i hl;rw[<-h];simp only[NS,rA,BP,bw,tW,JZ,aao,CR];rw[show ud ((k,p,n),x)=some (ci (k,p,n)&&cL (k,p,n) x) from ak hl,bw]
  have e:(if 1<=q then some (decide (q<=4)) else some false)=some (decide (1<=q/\q<=4)):=by
   by_cases a:1<=q<;>simp[a]
  rw[e];cases ci (k,p,n)<;>cases rU b es<;>cases cL (k,p,n) x<;>rfl
 ·cases h
theorem ajK (x:(Int×Int×Int)×(Int×List (Int×Int))×Int×U) (z:Bool) (h:Ci x=some z):Ov aK x=some z:=by obtain⟨⟨k,p,n⟩,⟨a,es⟩,q,x⟩:=x;simp only[Ci] at h;split at h;rename_i hl;rw[<-h];simp only[Ov,Cc,iL,bw,tW,JZ];rw[show Cb ((k,p,n),x)=some (ci (k,p,n)&&cL (k,p,n) x) from ak hl,bw];cases ci (k,p,n)<;>cases rU a es<;>cases cL (k,p,n) x<;>rfl;cases h
def cS (om:Bool) (w:Nat) (x y:Nat->Int) (t:Nat):Int:=sm w (fun i=>sm w (fun j=>kW om x y t i j))
def pc (x y:Nat->Int) (t:Nat):Int:=sm (t+1) (fun i=>x i*y (t - i))
theorem BA:∀(n:Nat) {f:Nat->Int},(∀i,i<n->f i=0)->sm n f=0
 |0,_,_=>rfl
 |n+1,f,h=>by simp only[sm];rw[BA n (fun i hi=>h i (by omega)),h n (by omega)];rfl
theorem TR {a:Nat} {f:Nat->Int}:∀(n:Nat),a<n->(∀i,i<n->i≠a->f i=0)->sm n f=f a
 |0,h,_=>by omega
 |n+1,h,hf=>by simp only[sm];by_cases e:a=n;subst e;rw[BA a (fun i b=>hf i (by omega) (by omega))];omega;rw[TR n (by omega) (fun i b c=>hf i (by omega) c),hf n (by omega) (by omega)];omega
theorem aeS {m:Nat} {f:Nat->Int}:∀(n:Nat),m<=n->(∀i,i<n->m<=i->f i=0)->sm n f=sm m f
 |0,h,_=>by rw[show m=0 by omega]
 |n+1,h,hf=>by by_cases e:m=n+1;rw[e];simp only[sm];rw[aeS n (by omega) (fun i hi hm=>hf i (by omega) hm),hf n (by omega) (by omega)];omega
theorem TS {p:Int} {f g:Nat->Int}:∀{n:Nat},(∀i,i<n->f i%p=g i%p)->sm n f%p=sm n g%p
 |0,_=>rfl
 |n+1,h=>by simp only[sm];rw[zca,TS (n:=n) (fun i hi=>h i (by omega)),h n (by omega),<-zca]
theorem FE {w t:Nat} (x y:Nat->Int) (h:t<w):cS false w x y t=pc x y t:=by
 have c:∀i,i<w->sm w (fun j=>kW false x y t i j)=if i<=t then x i*y (t - i) else 0:=by
  intro i b;split
  ·rename_i x5;rw[TR (a:=t - i) w (by omega) (fun j d aJ=>by unfold kW;rw[aq (by omega),aq (by simp)])];unfold kW;rw[ak (by omega)]
  ·exact BA w fun j d=>by unfold kW;rw[aq (by omega),aq (by simp)]
 unfold cS pc;rw[IK c,aeS (m:=t+1) w (by omega) (fun i b hm=>aq (by omega))];exact IK fun i b=>ak (by omega)
theorem aoX {p a b:Int} (c:a%p=b%p):(-a)%p=(-b)%p:=by
 have:(0 - a)%p=(0 - b)%p:=by rw[zcb,c,<-zcb]
 simpa using this
theorem VM {a:Bool} {w t:Nat} {p:Int} {x x' y y':Nat->Int} (hx:∀i,i<w->x i%p=x' i%p) (hy:∀i,i<w->y i%p=y' i%p):cS a w x y t%p=cS a w x' y' t%p:=by refine TS fun i b=>TS fun j c=>?_;have hm:(x i*y j)%p=(x' i*y' j)%p:=(by rw[zaf,hx i b,hy j c,<-zaf]);unfold kW;split;exact hm;split;exact aoX hm;rfl
theorem OY {a:Bool} {w t:Nat} {x x' y y':Nat->Int} (hx:∀i,i<w->x i=x' i) (hy:∀i,i<w->y i=y' i):cS a w x y t=cS a w x' y' t:= IK fun i b=>IK fun j c=>by unfold kW;rw[hx i b,hy j c]
theorem aqg (x y z:Nat->Int) {t:Nat} (h:t<6):pc (pc x y) z t=pc x (pc y z) t:=by
 match t,h with
 |0,_=>simp only[pc,sm,Nat.reduceSub,Nat.reduceAdd,zav];try grind
 |1,_=>simp only[pc,sm,Nat.reduceSub,Nat.reduceAdd,zav];try grind
 |2,_=>simp only[pc,sm,Nat.reduceSub,Nat.reduceAdd,zav];try grind
 |3,_=>simp only[pc,sm,Nat.reduceSub,Nat.reduceAdd,zav];try grind
 |4,_=>simp only[pc,sm,Nat.reduceSub,Nat.reduceAdd,zav];try grind
 |5,_=>simp only[pc,sm,Nat.reduceSub,Nat.reduceAdd,zav];try grind
theorem z9 (x y:Nat->Int):cS true 4 x y 0=x 0*y 0 - x 1*y 3 - x 2*y 2 - x 3*y 1:=by simp[cS,sm,kW];grind
theorem Aa (x y:Nat->Int):cS true 4 x y 1=x 0*y 1+x 1*y 0 - x 2*y 3 - x 3*y 2:=by simp[cS,sm,kW];grind
theorem Ab (x y:Nat->Int):cS true 4 x y 2=x 0*y 2+x 1*y 1+x 2*y 0 - x 3*y 3:=by simp[cS,sm,kW];grind
theorem Ac (x y:Nat->Int):cS true 4 x y 3=x 0*y 3+x 1*y 2+x 2*y 1+x 3*y 0:=by simp[cS,sm,kW]
theorem ahq (x y z:Nat->Int) {t:Nat} (h:t<4):cS true 4 (cS true 4 x y) z t=cS true 4 x (cS true 4 y z) t:=by
 match t,h with
 |0,_=>rw[z9,z9];simp only[z9,Aa,Ab,Ac];grind
 |1,_=>rw[Aa,Aa];simp only[z9,Aa,Ab,Ac];grind
 |2,_=>rw[Ab,Ab];simp only[z9,Aa,Ab,Ac];grind
 |3,_=>rw[Ac,Ac];simp only[z9,Aa,Ab,Ac];grind
theorem ag2 {k p:Int} {w:Nat} (c:NA k p w) (x y z:Nat->Int) {t:Nat} (h:t<w):cS (decide (k=8)) w (cS (decide (k=8)) w x y) z t=cS (decide (k=8)) w x (cS (decide (k=8)) w y z) t:=by by_cases b:k=8;obtain rfl:=c.w8 b;rw[decide_eq_true b];exact ahq x y z h;rw[decide_eq_false b];have h6:=c.cw;rw[OY (x':=pc x y) (y':=z) (fun i a=>FE x y a) (fun _ _=>rfl),FE _ _ h,OY (x':=x) (y':=pc y z) (fun _ _=>rfl) (fun i a=>FE y z a),FE _ _ h];exact aqg x y z (by omega)
theorem Po (p:Int) (a:Bool) (w:Nat) (x y:Nat->Int):Ae p a w x y=fw w fun t=>cS a w x y t%p:=rfl
theorem Af {r:Int×Int×Int} (h:r.1=7\/r.1=8) (x y:U):rb r x y=Ae r.2.1 (decide (r.1=8)) (ax r) (cu x) (cu y):=ak h
theorem aaM {a b c p:Int} (f:0<=p) (ha:0<=a) (hb:0<=b) (e:0<=c):min (min (a*b) p*c) p=min (a*b*c) p:=by generalize hm:a*b=m;by_cases h:m<=p;rw[show min m p=m by omega];rw[show min m p=p by omega];by_cases d:c=0;subst d;simp;have h1:p*1<=p*c:=zaj (by omega) f;have h2:p*c<=m*c:=Int.mul_le_mul_of_nonneg_right (by omega) e;omega
theorem Fb {r:Int×Int×Int} (a:¬(r.1=7\/r.1=8)):ax r=1:=by obtain⟨k,p,n⟩:=r;simp only at a;simp only[ax,jk];rw[aq (by omega),aq (by omega)];rfl
theorem apg {r:Int×Int×Int} (hr:ci r=true) (h:¬(r.1=7\/r.1=8)) {a b c:Int} (g:0<=a/\a<=bY r) (f:0<=b/\b<=bY r) (e:0<=c/\c<=bY r):kz r (kz r a b) c=kz r a (kz r b c):=by obtain⟨k,p,n⟩:=r;simp only at h;rcases pt hr with⟨rfl,rfl,rfl⟩|⟨rfl,d,rfl⟩|⟨rfl,d,rfl⟩|⟨rfl,d,rfl⟩|⟨rfl,d,rfl⟩|⟨rfl,rfl,hn⟩|⟨rfl,d,hn⟩|⟨rfl,d,j3,rfl⟩;have o:∀u v,kz (1,0,0) u v=((u.toNat&&&v.toNat:Nat):Int):=fun _ _=>rfl;rw[o,o,o,o,If,If,zb4];have o:∀u v,kz (2,p,0) u v=u*v%p:=fun _ _=>rfl;rw[o,o,o,o,zaf,zaG,<-zaf,zaf a,zaG,<-zaf,zaT];have o:∀u v,kz (3,p,0) u v=min (u*v) p:=fun _ _=>rfl;rw[o,o,o,o,aaM (by omega) g.1 f.1 e.1,zcc a (min _ _),aaM (by omega) f.1 e.1 g.1,zaT a b c,zcc a];have o:∀u v,kz (4,p,0) u v=min (u+v) p:=fun _ _=>rfl;rw[o,o,o,o];omega;have o:∀u v,kz (5,p,0) u v=min u v:=fun _ _=>rfl;rw[o,o,o,o];omega;have o:∀u v,kz (6,0,n) u v=((u.toNat&&&v.toNat:Nat):Int):=fun _ _=>rfl;rw[o,o,o,o,If,If,zb4];omega;omega
theorem mul_assoc {r:Int×Int×Int} {x y z:U} (hr:ci r=true) (hx:cL r x=true) (hy:cL r y=true) (o:cL r z=true):rb r (rb r x y) z=rb r x (rb r y z):=by by_cases d:r.1=7\/r.1=8;obtain⟨k,p,n⟩:=r;have c:=O3 hr d;rw[Af d,Af d,Af d,Af d];simp only;refine I0 fun t s=>?_;show cS (decide (k=8)) (ax (k,p,n)) (cu (Ae p (decide (k=8)) (ax (k,p,n)) (cu x) (cu y))) (cu z) t%p=cS (decide (k=8)) (ax (k,p,n)) (cu x) (cu (Ae p (decide (k=8)) (ax (k,p,n)) (cu y) (cu z))) t%p;have l:cS (decide (k=8)) (ax (k,p,n)) (cu (Ae p (decide (k=8)) (ax (k,p,n)) (cu x) (cu y))) (cu z) t%p=cS (decide (k=8)) (ax (k,p,n)) (cS (decide (k=8)) (ax (k,p,n)) (cu x) (cu y)) (cu z) t%p:= VM (fun i f=>by rw[Po,Gd _ f,zaG]) (fun _ _=>rfl);have q:cS (decide (k=8)) (ax (k,p,n)) (cu x) (cu (Ae p (decide (k=8)) (ax (k,p,n)) (cu y) (cu z))) t%p=cS (decide (k=8)) (ax (k,p,n)) (cu x) (cS (decide (k=8)) (ax (k,p,n)) (cu y) (cu z)) t%p:= VM (fun _ _=>rfl) (fun i f=>by rw[Po,Gd _ f,zaG]);rw[l,q,ag2 c _ _ _ s];have g:=Fb d;obtain⟨a,b,rfl,rfl,m,h⟩:=PE hx hy g;obtain⟨_,c,e,rfl,_,j⟩:=PE hx o g;rw[yO d,yO d,yO d,yO d,apg hr d m h j]
theorem ajO {k p n:Int} (hk:k=7\/k=8) {j:Nat} (a:j<ax (k,p,n)):cu (eW (k,p,n)) j=if j=0 then 1 else 0:=by rw[ach,Gd _ a,aq (show¬k=4 by omega),aq (show¬(k=5\/k=6) by omega)]
theorem ag1 {k p:Int} {w:Nat} (c:NA k p w) (u:Nat->Int) (v:Int) {t:Nat} (h:t<w):cS (decide (k=8)) w u (fun j=>if j=0 then v else 0) t=u t*v:=by
 by_cases b:k=8
 ·obtain rfl:=c.w8 b;rw[decide_eq_true b];match t,h with
  |0,_=>rw[z9];simp
  |1,_=>rw[Aa];simp
  |2,_=>rw[Ab];simp
  |3,_=>rw[Ac];simp
 ·rw[decide_eq_false b,FE _ _ h];unfold pc;rw[TR (a:=t) (t+1) (by omega) (fun i hi aJ=>by simp only;rw[aq (by omega),Int.mul_zero])];simp only
  rw[ak (by omega)]
theorem api {k p n:Int} (hr:ci (k,p,n)=true) (hk:¬(k=7\/k=8)) {a:Int} (ha:0<=a/\a<=bY (k,p,n)):kz (k,p,n) a (if k=4 then 0 else if k=5\/k=6 then bY (k,p,n) else 1)=a:=by rcases pt hr with⟨rfl,rfl,rfl⟩|⟨rfl,b,rfl⟩|⟨rfl,b,rfl⟩|⟨rfl,b,rfl⟩|⟨rfl,b,rfl⟩|⟨rfl,rfl,hn⟩|⟨rfl,b,hn⟩|⟨rfl,b,j3,rfl⟩;have e:bY (1,0,0)=1:=rfl;have c:a=0\/a=1:=(by omega);rcases c with rfl|rfl<;>decide;have e:bY (2,p,0)=p - 1:=rfl;have:=jR b;show a*1%p=a;rw[zbS,zbE (by omega) (by omega)];have e:bY (3,p,0)=p:=rfl;show min (a*1) p=a;omega;have e:bY (4,p,0)=p:=rfl;show min (a+0) p=a;omega;have e:bY (5,p,0)=p:=rfl;show min a p=a;omega;have e:bY (6,0,n)=2^n.toNat - 1:=rfl;have e2:(((2:Nat)^n.toNat:Nat):Int)=(2:Int)^n.toNat:=(by push_cast;rfl);show((a.toNat&&&(2^n.toNat - 1:Int).toNat:Nat):Int)=a;rw[show(2^n.toNat - 1:Int).toNat=2^n.toNat - 1 by omega,Nat.and_two_pow_sub_one_eq_mod,zba (by omega)];omega;omega;omega
theorem mul_one {r:Int×Int×Int} {x:U} (hr:ci r=true) (hx:cL r x=true):rb r x (eW r)=x:=by
 obtain⟨k,p,n⟩:=r;by_cases a:k=7\/k=8
 ·have c:=O3 hr a;rw[Af a,Po];simp only
  have h:bY (k,p,n)=p - 1:=by
   simp only[bY];rw[aq (by omega),aq (by omega),aq (by omega)]
  refine(I0 fun t d=>?_).trans (I1 (gB hx));rw[OY (x':=cu x) (y':=fun j=>if j=0 then 1 else 0) (fun _ _=>rfl) (fun i f=>ajO a f),ag1 c _ _ d,zbS]
  have:=rO hx d;rw[h] at this;exact zbE this.1 (by omega)
 ·have b:=Fb (r:=(k,p,n)) a;obtain⟨e,l⟩:=v9 hx b;have g:eW (k,p,n)=[if k=4 then 0 else if k=5\/k=6 then bY (k,p,n) else 1]:=by simp only[eW];exact aqR b
  rw[e,g,yO a,api hr a l]
abbrev Rg:=Int×Int×Int
abbrev T3:=U×U×U
abbrev mW:=Int×List U
def jT (r:Rg) (t:T3):Bool:=ci r&&(decide (0<=iB t.1 t.2.1)&&(decide ((t.2.2.length:Int)=iB t.1 t.2.1*jk r)&&t.2.2.all (mq (bY r))))
def xC:Rg×T3->Option Bool:=fun x=>if x.2.1.length<=1048576/\x.2.2.1.length<=1048576/\x.2.2.2.length<=1048576 then some (jT x.1 x.2) else none
def BR:Rg×T3->Option Bool:=xC
def FF (R:List U) (ix:U) (i:Nat):Int:=(R.getD i []).getD (ix.getD i 0).toNat 0
def afh (x:mW×U):Prop:=(1<=x.1.1/\x.1.1<=12)/\x.2.length<=12/\∀i,i<x.2.length->i<x.1.2.length/\(0<=x.2.getD i 0/\(x.2.getD i 0).toNat<(x.1.2.getD i []).length)/\0<=FF x.1.2 x.2 i/\FF x.1.2 x.2 i<=12
instance (x:mW×U):Decidable (afh x):=by unfold afh;infer_instance
def BU:U->Option Int:=fun l=>if(l.length<=12\/l.length<=1000/\bD l<=1073741824)/\∀v∈l,1<=v/\v<=8 then some (eo l) else none
def eH (l:U) (o:Nat) (x:U):U:=l.take o++x++l.drop (o+x.length)
def Td (x:Rg×T3×Int×U):Prop:=ci x.1=true/\0<=x.2.2.1/\x.2.2.1.toNat*ax x.1+x.2.2.2.length<=x.2.1.2.2.length/\x.2.1.2.2.length<=1048576
instance (x:Rg×T3×Int×U):Decidable (Td x):=by unfold Td;infer_instance
def vH:Rg×T3×Int×U->Option U:=fun x=>if Td x then some (eH x.2.1.2.2 (x.2.2.1.toNat*ax x.1) x.2.2.2) else none
def PF (x:Rg×T3×Int):Prop:=ci x.1=true/\0<=x.2.2/\(x.2.2.toNat+1)*ax x.1<=x.2.1.2.2.length/\x.2.1.2.2.length<=1048576
instance (x:Rg×T3×Int):Decidable (PF x):=by unfold PF;infer_instance
def zS (D:U) (c:mW) (n:Nat):Bool:=decide (sm D.length (FF c.2 (cK D n))%c.1≠0)
def uE (r:Rg) (D:U) (c:mW) (A:U):Nat->U
 |0=>A
 |k+1=>if zS D c k=true then eH (uE r D c A k) (k*ax r) (fx r) else uE r D c A k
def V3 (x:Rg×T3×mW):Prop:=(x.2.1.1.length<=1048576/\x.2.1.2.1.length<=1048576/\x.2.1.2.2.length<=1048576)/\JK (x.2.1,x.2.2)
instance (x:Rg×T3×mW):Decidable (V3 x):=by unfold V3;infer_instance
def V5 (r:Rg) (t:T3) (c:mW):T3×Bool:=if jT r t=true/\O4 (t,c)=true then((t.1,t.2.1,uE r t.2.1 c t.2.2 (bD t.2.1)),true) else(([],[],[]),false)
def FO (r:Rg) (t:T3) (c:mW):Bool:=decide (jT r t=true/\O4 (t,c)=true/\uE r t.2.1 c t.2.2 (bD t.2.1)=t.2.2)
def Og (NN:Nat):((Int×(Int×Int))×(U×(U×U)))->(Option Bool):=
 (fun(((i0,i1,i2),l3,l4,l5):((Int×(Int×Int))×(U×(U×U))))=>
 (vD (l3,l4,l5)).ae (fun i6=>
 (ui (i0,i1,i2)).ae (fun b7=>
 au (dh b7)
 (some false)
 (au (bF i6 (0:Int))
 (some false)
 ((rD (i0,i1,i2)).ae (fun i8=>
 au (ff (aU (af l5)) (mP .i64 i6 i8))
 (some false)
 (cT (cd NN (fun(((l9,eF,eK),gu,mn,hZ):((U×(Int×Int))×(Int×(Int×Int))))=>
 au (bF eK eF)
 ((cW l9 eK).ae (fun iU=>
 (vF (gu,mn,hZ)).ae (fun eU=>
 (iL (iU,(0:Int),eU)).ae (fun FD=>
 au (dh FD)
 (some (AN (AN false)))
 (some (wt ((l9,eF,cH .i64 eK 1),gu,mn,hZ)))))))
 (some (AN (wt ()))))
 ((l5,aU (af l5),(0:Int)),i0,i1,i2))
 (fun _=>
 some true))))))))
def NH (NN:Nat):((Int×(Int×Int))×(U×(U×U)))->(Option Bool):=
 (fun(((i0,i1,i2),l3,l4,l5):((Int×(Int×Int))×(U×(U×U))))=>
 (rA (i0,i1,i2)).ae (fun b6=>
 au (dh b6)
 (some false)
 ((zE (l3,l4,l5)).ae (fun i7=>
 au (ff i7 ((-1:Int)))
 ((pH (i0,i1,i2)).ae (fun i8=>
 au (bR (aU (af l5)) (mP .i64 i7 i8))
 ((xy ((i0,i1,i2),l5)).ae (fun b9=>
 some b9))
 (some false)))
 (some false)))))
def NO (NN:Nat):U->(Option Int):=
 (fun(l0:U)=>
 cT (cd NN (fun((i1,l2,i3,i4):(Int×(U×(Int×Int))))=>
 au (bF i4 i3)
 ((cW l2 i4).ae (fun i5=>
 some (wt (mP .i64 i1 i5,l2,i3,cH .i64 i4 1))))
 (some (AN (wt i1))))
 ((1:Int),l0,aU (af l0),(0:Int)))
 (fun i6=>
 some i6))
theorem fM {α β:Type} (x:α) (f:α->Option β):(some x).ae f=f x:=by
 have h:∀o:Option α,o=some x->o.ae f=f x:=by intro o h;subst h;rfl
 exact h _ rfl
theorem E4 {r:Rg} {L D A:U} (h:jT r (L,D,A)=true):ci r=true/\(D.length<=12/\(∀x∈D,1<=x/\x<=8))/\iB L D=(bD D:Int)/\(1<=bD D/\bD D<=4096)/\A.length=bD D*ax r/\nW D/\zU 4096 D=(bD D:Int)/\eo D=(bD D:Int)/\A.all (mq (bY r))=true:=by simp only[jT,By,decide_eq_true_eq] at h;obtain⟨d,f,c,i⟩:=h;have j:=jU d;by_cases b:m6 L D=true/\eo D<=4096;have e:iB L D=eo D:=ak b;have hd:=Cy b.1;have hl:=vP b.1;have a:=Er (D:=D) fun x hx=>(hd x hx).1;have g:=Il (D:=D) fun x hx=>(hd x hx).1;refine⟨d,⟨by omega,hd⟩,e.trans a,⟨g,by omega⟩,?_,⟨by omega,fun x hx=>by have:=hd x hx;omega⟩,?_,a,i⟩;rw[e,a,j.1] at c;exact_mod_cast c;unfold zU;rw[JJ (by decide) _ 0 1 (fun x hx=>(hd x hx).1) (by decide) (by decide),zbt,a,zbT (by omega)];have e:iB L D= -1:=aq b;rw[e] at f;exact absurd f (by decide)
theorem afD (L D:U):iB L D= -1\/(0<=iB L D/\iB L D<=4096):=by unfold iB;split;rename_i h;have hd:=Cy h.1;have hI:=Er (D:=D) fun x hx=>(hd x hx).1;right;omega;exact .inl rfl
theorem afA {L D:U} {r:Rg} (h:ci r=true) (a:0<=iB L D):mP .i64 (iB L D) (jk r)=iB L D*jk r:=by have hw:=jU h;have b:iB L D<=4096:=(by rcases afD L D with e|e;omega;exact e.2);have h2:iB L D*jk r<=4096*6:=zax b (by omega) (by omega) (by decide);have h3:0<=iB L D*jk r:=zbq a (by omega);exact pf
theorem ajs (x:Rg×T3) (y:Bool) (h:xC x=some y):Og aK x=some y:=by obtain⟨⟨k,p,n⟩,L,D,A⟩:=x;simp only[xC] at h;split at h;rename_i e;rw[<-h];simp only[Og];rw[show vD (L,D,A)=some (iB L D) from ak ⟨e.1,e.2.1⟩];simp only[fM,ui];(cases hr:ci (k,p,n) with|false=>rw[bm (b:=dh false) rfl];simp[jT,hr]|true=>rw[bi (b:=dh true) rfl];by_cases d:0<=iB L D;rw[bi (dY d)];simp only[rD,fM];rw[afA hr d,nl];by_cases hl:(A.length:Int)=iB L D*jk (k,p,n);rw[bi (show ff _ _=false by unfold ff;rw[hl];simp)];have j:vF (k,p,n)=some (bY (k,p,n)):=ak hr;rw[Lv A (fun i=>((A,(A.length:Int),(i:Int)),k,p,n)) (mq (bY (k,p,n))) (.inr false) (.inl ()) ?_ ?_ ?_ ?_ (fF (by have:=e.2.2;omega))];cases c:A.all (mq (bY (k,p,n)));rw[aq (by simp)];simp[jT,hr,c,cT];rw[ak rfl];simp[jT,hr,c,cT,d,hl];intro i a c f;have g:decide (0<=a/\a<=bY (k,p,n))=true:=f;dsimp only;rw[bm (eE (by have:=Lx c;omega)),eZ,c,fM,j];simp only[iL,fM];rw[g,bi SN,sB c (by have:=e.2.2;omega)];intro i a c f;have g:decide (0<=a/\a<=bY (k,p,n))=false:=f;dsimp only;rw[bm (eE (by have:=Lx c;omega)),eZ,c,fM,j];simp only[iL,fM];rw[g,bm (b:=dh false) rfl];dsimp only;rw[bi dY];rfl;rw[bm (show ff _ _=true from bne_iff_ne.2 hl)];simp[jT,hr,hl];rw[bm eE];simp[jT,hr,d]);cases h
theorem aiK (x:Rg×T3) (y:Bool) (h:BR x=some y):NH aK x=some y:=by obtain⟨⟨k,p,n⟩,L,D,A⟩:=x;simp only[BR,xC] at h;split at h;rename_i c;rw[<-h];simp only[NH,rA,fM];(cases hr:ci (k,p,n) with|false=>rw[bm (b:=dh false) rfl];simp[jT,hr]|true=>rw[bi (b:=dh true) rfl,show zE (L,D,A)=some (iB L D) from ak ⟨c.1,c.2.1⟩];simp only[fM];by_cases a:0<=iB L D;rw[bm (show ff _ _=true from bne_iff_ne.2 (by omega))];simp only[pH,fM];rw[afA hr a,nl];by_cases hl:(A.length:Int)=iB L D*jk (k,p,n);rw[bm (show bR _ _=true from beq_iff_eq.2 hl),show xy ((k,p,n),A)=some _ from ak ⟨hr,by have:=c.2.2;omega⟩,fM];simp[jT,hr,a,hl];rw[bi (show bR _ _=false from beq_eq_false_iff_ne.2 hl)];simp[jT,hr,hl];have:iB L D= -1:=(by rcases afD L D with e|e<;>omega);rw[bi (show ff _ _=false by unfold ff;rw[this];rfl)];simp[jT,hr,a]);cases h
theorem acI:∀(l:U) (k:Nat),bD l=bD (l.take k)*bD (l.drop k)
 |[],k=>by simp[bD]
 |x::l,0=>by simp[bD]
 |x::l,k+1=>by simp only[List.take_succ_cons,List.drop_succ_cons,bD];rw[acI l k,zbA]
theorem aiT (x:U) (y:Int) (h:BU x=some y):NO aK x=some y:=by simp only[BU] at h;split at h;rename_i n;rw[<-h];obtain⟨hl,d⟩:=n;have c:∀k,k<=x.length->1<=eo (x.take k)/\eo (x.take k)<=68719476736:=(by rcases hl with hl|hl;have c:∀k,k<=x.length->1<=eo (x.take k)/\eo (x.take k)<=8^k:=(by intro k;induction k with|zero=>exact fun _=>⟨zbu 1,zbu 1⟩|succ k s=>intro a;obtain⟨o,q⟩:=s (by omega);have b:=d _ (zad (getD_some 0 (show k<x.length by omega)));rw[Eo (by omega)];have f:1*1<=eo (x.take k)*x.getD k 0:=zax o b.1 (by decide) (by omega);have e:eo (x.take k)*x.getD k 0<=8^k*8:=zax q b.2 (by omega) (by exact Int.pow_nonneg (by decide));exact⟨by omega,by rw[zaM];exact e⟩);have r:∀k,k<=12->(8:Int)^k<=68719476736:=(by decide);intro k a;have b:=c k a;have j:=r k (by omega);omega;intro k a;have i:∀(l:U),(∀v∈l,v∈x)->1<=bD l:=fun l p=>Il fun v m=>(d v (p v m)).1;have b:=i (x.take k) fun v h=>zaQ h;have j:=i (x.drop k) fun v h=>zbm h;have h3:=acI x k;have h4:bD (x.take k)*1<=bD (x.take k)*bD (x.drop k):=zbv _ j;have h5:=Er (D:=x.take k) fun v h=>(d v (zaQ h)).1;omega);simp only[NO];rw[iG (fun k=>(eo (x.take k),x,aU (af x),(k:Int))) x.length ?f ?e ?a3 fF];(case a3=>rfl);(case e=>dsimp only;rw[bi (vn x)]);(case f=>intro k a;have g:=getD_some (0:Int) a;have b:=c (k+1) (by omega);rw[Eo a] at b;dsimp only;rw[bm (eE (by rw[nl];omega)),eZ,g,fM,pf,fb,<-Eo a];rfl);simp only[cT,Option.bind,zat];cases h
def BV:Rg×T3×Int->Option (Int×Int):=fun x=>if PF x then some (((x.2.2.toNat*ax x.1:Nat):Int),(((x.2.2.toNat+1)*ax x.1:Nat):Int)) else none
def Ot (NN:Nat):((Int×(Int×Int))×((U×(U×U))×(Int×U)))->(Option U):=
 (fun(((i0,i1,i2),(l3,l4,l5),i6,l7):((Int×(Int×Int))×((U×(U×U))×(Int×U))))=>
 (rD (i0,i1,i2)).ae (fun i8=>
 aB l5 (
 cd NN (fun(((i9,eV,eK,gu,mn),dX,gT,ib):((Int×(U×(Int×(Int×Int))))×(U×(U×U))))=>
 au (bF mn gu)
 ((cW eV mn).ae (fun jt=>
 (dw (cH .i64 (mP .i64 i9 eK) mn) (af dX)).ae (fun yu=>
 (cP dX (aE 0 yu)).ae (fun lF=>
 (bj 0 (af dX) (af (bh dX (aE 0 yu) jt))).ae (fun _=>
 some (wt ((i9,eV,eK,gu,cH .i64 mn 1),bh dX (aE 0 yu) jt,gT,ib)))))))
 (((mz (af dX) (af l5)).ae (fun _=>
 some dX)).ae (fun kv=>
 some (AN kv))))
 ((i6,l7,i8,aU (af l7),(0:Int)),l5,l3,l4))))
def NP (NN:Nat):((Int×(Int×Int))×((U×(U×U))×Int))->(Option (Int×Int)):=
 (fun(((i0,i1,i2),(l3,l4,l5),i6):((Int×(Int×Int))×((U×(U×U))×Int)))=>
 (pH (i0,i1,i2)).ae (fun i7=>
 (iY (mP .i64 i6 i7) (mP .i64 (cH .i64 i6 1) i7) (af l5)).ae (fun(k8,k9)=>
 (dw (0:Int) (af l5)).ae (fun k10=>
 some (aU (aE 0 k8),aU (aE (aE 0 k8) k9))))))
theorem RT {α:Type} {a b:Prop} [Decidable a] [Decidable b] (h:a↔b) (x y:α):(if a then x else y)=if b then x else y:=by simp only[h]
theorem LD {a b:Nat} (h:a*b<=1099511627776:=by omega):mP .i64 (a:Int) (b:Int)=((a*b:Nat):Int):=by have e:(a:Int)*(b:Int)=((a*b:Nat):Int):=(Int.natCast_mul a b).symm;rw[pf,e]
theorem Ip {l:U} {o:Nat} {x:U} (h:o+x.length<=l.length):(eH l o x).length=l.length:=by unfold eH;simp only[zah,IT,zbL];omega
theorem Te {l:U} {o:Nat} {x:U} (h:o+x.length<=l.length) (q:Nat):(eH l o x)[q]? =if q<o then l[q]? else if q<o+x.length then x[q - o]? else l[q]? :=by unfold eH;have c:(l.take o).length=o:=(by rw[IT];omega);have d:(l.take o++x).length=o+x.length:=(by rw[zah,c]);by_cases a:q<o;rw[ak a,zaz (by omega),zaz (by omega),zap,ak a];rw[aq a];by_cases b:q<o+x.length;rw[ak b,zaz (by omega),zao (by omega),c];rw[aq b,zao (by omega),d,zaC];congr 1;omega
theorem aqC {l:U} {o i:Nat} {x:U} (h:o+x.length<=l.length) (c:i<x.length):bh (eH l o (x.take i)) (o+i) (x.getD i 0)=eH l o (x.take (i+1)):=by have l1:(x.take i).length=i:=(by rw[IT];omega);have l2:(x.take (i+1)).length=i+1:=(by rw[IT];omega);have lp:=Ip (l:=l) (o:=o) (x:=x.take i) (by omega);apply zae;intro q;unfold bh;rw[Te (by omega) q,l2];by_cases e:q=o+i;subst e;rw[zaH (by omega),aq (by omega),ak (by omega),Nat.add_sub_cancel_left,zap,ak (by omega)];exact(getD_some 0 c).symm;rw[zbo (fun h=>e h.symm),Te (by omega) q,l1];by_cases a:q<o;rw[ak a,ak a];rw[aq a,aq a];by_cases b:q<o+i;rw[ak b,ak (by omega),zap,zap,ak (by omega),ak (by omega)];rw[aq b,aq (by omega)]
theorem ajF (x:Rg×T3×Int×U) (y:U) (h:vH x=some y):Ot aK x=some y:=by obtain⟨⟨k,p,m⟩,⟨L,D,A⟩,n,x⟩:=x;simp only[vH] at h;split at h;rename_i f;rw[<-h];obtain⟨hr,e,c,l⟩:=f;dsimp only at hr e c l;obtain⟨n,rfl⟩:=re e;have j:=jU hr;simp only[If] at c⊢;have hnw:n*ax (k,p,m)<=1048576:=(by omega);have hn:n<=1048576:=(by have:=za9 n (show 0<ax (k,p,m) by omega);omega);simp only[Ot,rD,fM,de,aB];rw[j.1];rw[iG (fun i=>(((n:Int),x,((ax (k,p,m):Nat):Int),aU (af x),(i:Int)),eH A (n*ax (k,p,m)) (x.take i),L,D)) (r:=eH A (n*ax (k,p,m)) x) x.length ?a1 ?a2 ?a3 fF];(case a3=>rw[List.take_zero];simp[eH]);(case a2=>dsimp only;rw[bi (vn x),zat];have:af (eH A (n*ax (k,p,m)) x)=af A:=Ip c;rw[this,show mz (af A) (af A)=some () from ak rfl];simp only[fM]);(case a1=>intro i d;have l1:(x.take i).length=i:=(by rw[IT];omega);have hl:af (eH A (n*ax (k,p,m)) (x.take i))=A.length:=Ip (by omega);dsimp only;rw[bm (eE (by rw[nl];omega)),eZ,getD_some 0 d];simp only[fM];rw[LD (a:=n) (b:=ax (k,p,m)) (by omega)];rw[fb,show((n*ax (k,p,m):Nat):Int)+(i:Int)=((n*ax (k,p,m)+i:Nat):Int) by push_cast;rfl];rw[hl,vT (by omega)];simp only[fM,uu];obtain⟨v,g⟩:∃v,(eH A (n*ax (k,p,m)) (x.take i))[n*ax (k,p,m)+i]? =some v:=⟨_,co (show n*ax (k,p,m)+i<(eH A (n*ax (k,p,m)) (x.take i)).length by have:(eH A (n*ax (k,p,m)) (x.take i)).length=A.length:=hl;omega)⟩;rw[show cP (eH A (n*ax (k,p,m)) (x.take i)) (n*ax (k,p,m)+i)=some v from g];simp only[fM];have l2:(x.take (i+1)).length=i+1:=(by rw[IT];omega);rw[aqC c d,show bj 0 A.length (af (eH A (n*ax (k,p,m)) (x.take (i+1))))=some () from n5 (Ip (by omega)).symm];simp only[fM];rw[fb];rfl);cases h
theorem Ff {r:Rg} (h:ci r=true):(fx r).length=ax r:=by have:=FZ h;simp only[cL,By,decide_eq_true_eq] at this;exact this.1
theorem V4 {r:Rg} {D A:U} {c:mW} {N:Nat} (hr:ci r=true) (b:A.length=N*ax r):∀k,k<=N->(uE r D c A k).length=A.length
 |0,_=>rfl
 |k+1,hk=>by have a:=V4 (D:=D) (c:=c) hr b k (by omega);have hm:(k+1)*ax r<=N*ax r:=zaw _ hk;rw[zaK,zaJ] at hm;unfold uE;split;rw[Ip (by rw[Ff hr,a];omega)];exact a;exact a
theorem Pk {r:Rg} {D A:U} {c:mW} {N:Nat} (hr:ci r=true) (i:A.length=N*ax r) (q:Nat):∀k,k<=N->(uE r D c A k)[q]? =if q/ax r<k/\zS D c (q/ax r)=true then(fx r)[q%ax r]? else A[q]?
 |0,_=>by rw[aq (fun h=>zbU _ h.1)];rfl
 |k+1,hk=>by have j:=Pk (D:=D) (c:=c) hr i q k (by omega);have hw:=(jU hr).2.1;have hm:(k+1)*ax r<=N*ax r:=zaw _ hk;rw[zaK,zaJ] at hm;have YI:=zaX q (ax r);have KI:=zbZ q (show 0<ax r by omega);unfold uE;by_cases g:zS D c k=true;rw[ak g,Te (by rw[Ff hr,V4 hr i k (by omega)];omega),Ff hr,j];by_cases e:q/ax r=k;subst e;rw[aq (by rw[zag];omega),ak (by rw[zag];omega),ak ⟨by omega,g⟩];congr 1;rw[zag];omega;have m:¬(¬q<k*ax r/\q<k*ax r+ax r):=(by rintro⟨f,d⟩;apply e;apply Nat.div_eq_of_lt_le;rw[zag];rw[zag] at f;omega;rw[zaK,zaJ];omega);have l:(q/ax r<k/\zS D c (q/ax r)=true)↔(q/ax r<k+1/\zS D c (q/ax r)=true):=(by constructor;rintro⟨f,d⟩;exact⟨by omega,d⟩;rintro⟨f,d⟩;exact⟨by omega,d⟩);by_cases a:q<k*ax r;rw[ak a];exact RT l _ _;rw[aq a,aq (fun b=>m ⟨a,b⟩)];exact RT l _ _;rw[aq g,j];refine RT ?_ _ _;constructor;rintro⟨f,d⟩;exact⟨by omega,d⟩;rintro⟨f,d⟩;refine⟨?_,d⟩;by_cases e:q/ax r=k;rw[e] at d;exact absurd d g;omega
theorem ahw {r:Rg} {D A:U} {c:mW} {N:Nat} (hr:ci r=true) (d:A.length=N*ax r):uE r D c A N=A↔∀n,n<N->zS D c n=true->iy A (n*ax r) (ax r)=fx r:=by have hw:=(jU hr).2.1;constructor;intro h n hn f;have hm:(n+1)*ax r<=N*ax r:=zaw _ hn;rw[zaK,zaJ] at hm;apply zae;intro j;unfold iy;rw[zap,zaC];by_cases a:j<ax r;rw[ak a];have hd:(n*ax r+j)/ax r=n:=(by rw[zag,Nat.mul_add_div (by omega),zbM a,zbH]);have g:(n*ax r+j)%ax r=j:=(by rw[zag,Nat.mul_add_mod,zba a]);have:=Pk (D:=D) (c:=c) hr d (n*ax r+j) N (zac _);rw[h,hd,g,ak ⟨hn,f⟩] at this;exact this;rw[aq a,IS (by rw[Ff hr];omega)];intro h;apply zae;intro q;rw[Pk hr d q N (zac _)];split;rename_i b;have:=h _ b.1 b.2;have i:=zbZ q (show 0<ax r by omega);have e:=congrArg (fun l=>l[q%ax r]?) this;unfold iy at e;simp only[zap,zaC,ak i] at e;rw[<-e];congr 1;rw[zag];exact zaX q (ax r);rfl
theorem aiU (x:Rg×T3×Int) (y:Int×Int) (h:BV x=some y):NP aK x=some y:=by obtain⟨⟨k,p,m⟩,⟨L,D,A⟩,n⟩:=x;simp only[BV] at h;split at h;rename_i e;rw[<-h];obtain⟨hr,c,d,i⟩:=e;dsimp only at hr c d i;obtain⟨n,rfl⟩:=re c;have f:=jU hr;simp only[If] at d⊢;have g:(n+1)*ax (k,p,m)=n*ax (k,p,m)+ax (k,p,m):=(by rw[zaK,zaJ]);have hn:n+1<=1048576:=(by have:=za9 (n+1) (show 0<ax (k,p,m) by omega);omega);simp only[NP,pH,fM];rw[f.1,fb,show(n:Int)+1=((n+1:Nat):Int) by push_cast;rfl];rw[LD (a:=n) (b:=ax (k,p,m)) (by omega)];rw[LD (a:=n+1) (b:=ax (k,p,m)) (by omega)];rw[show iY ((n*ax (k,p,m):Nat):Int) (((n+1)*ax (k,p,m):Nat):Int) (af A)=some (n*ax (k,p,m),ax (k,p,m)) by unfold iY af;rw[ak ⟨by omega,by omega,by omega⟩];congr 2;omega];simp only[fM];rw[show dw (0:Int) (af A)=some 0 by unfold dw af;rw[ak ⟨by omega,by omega⟩];rfl];simp only[fM,aU,aE,zav];rw[g];cases h
theorem aaz {X Y:Type} {f:X->Option (X⊕Y)} (n:Nat) (I:Nat->X->Prop) (Q:Y->Prop) (h:∀i x,i<n->I i x->∃x',f x=some (.inl x')/\I (i+1) x') (o:∀x,I n x->∃r,f x=some (.inr r)/\Q r) {b:X} (j:I 0 b) {N:Nat} (a:n<N):∃r,cd N f b=some r/\Q r:=by have c:∀(k i:Nat) (x:X),i+k=n->I i x->∀N,k<N->∃r,cd N f x=some r/\Q r:=(by intro k;induction k with|zero=>intro i x g hx N a;obtain⟨N,rfl⟩:∃M,N=M+1:=⟨N - 1,by omega⟩;have:i=n:=(by omega);subst this;obtain⟨r,e,q⟩:=o x hx;exact⟨r,by simp only[cd,e],q⟩|succ k m=>intro i x g hx N a;obtain⟨N,rfl⟩:∃M,N=M+1:=⟨N - 1,by omega⟩;obtain⟨x',e,d⟩:=h i x (by omega) hx;obtain⟨r,l,q⟩:=m (i+1) x' (by omega) d N (by omega);exact⟨r,by simp only[cd,e];exact l,q⟩);exact c n 0 b (by omega) j N a
def Z3 (x:Int×kK×kK):Prop:=ph x.1/\Bc x.2.1/\Bc x.2.2/\(x.2.1.1*x.2.2.1<=4096/\x.2.1.2.1*x.2.2.2.1<=4096)/\(x.2.1.1*x.2.2.1)*(x.2.1.2.1*x.2.2.2.1)<=1048576/\td x.1 x.2.1.2.2/\td x.1 x.2.2.2.2
instance (x:Int×kK×kK):Decidable (Z3 x):=by unfold Z3;infer_instance
section
variable {p:Int} {r c s d:Nat} {A B:ed}
end
section
variable {p:Int} {n m:Nat} {a b a2 b2:U} {ms SJ:List kK}
end

abbrev Wd:=U
structure BI (p:Int) (n t:Nat) (S:List Wd×U) (q:List Wd):Prop where
 dl:S.2.length=S.1.length*n
 dp:td p S.2
 kn:S.1.length<=n
 qo:∀w∈q,Nr t w/\w.length<=S.1.length
 wo:∀w∈S.1,Nr t w/\w.length<=n
section
variable {p:Int} {n:Nat} {s b:U} {ms:List kK}
theorem BI.no {S:List Wd×U} {w:Wd} {q:List Wd} (h:BI p n ms.length S (w::q)):BI p n ms.length S q:=⟨h.dl,h.dp,h.kn,fun v a=>h.qo v (by simp[a]),h.wo⟩
end
section
variable {p:Int} {n:Nat} {s b:U} {ms:List kK}
end
section
variable {p:Int} {n:Nat} {s b:U} {ms:List kK}
end
def aeV (x:Int×kK×kK):Prop:=ph x.1/\(0<=x.2.1.1/\x.2.1.1<=x.2.1.2.1/\x.2.1.2.1<=12)/\(0<=x.2.2.1/\x.2.2.1<=12)/\x.2.2.2.1=x.2.1.2.1/\(x.2.1.2.2.length=x.2.1.1.toNat*x.2.1.2.1.toNat/\x.2.2.2.2.length=x.2.2.1.toNat*x.2.1.2.1.toNat)/\td x.1 x.2.1.2.2/\td x.1 x.2.2.2.2
instance (x:Int×kK×kK):Decidable (aeV x):=by unfold aeV;infer_instance


def OG (p:Int) (M:ed) (i j:Nat):Prop:=(M i j+M j i)%p=0/\(i=j->M i j=0)
instance (p:Int) (M:ed) (i j:Nat):Decidable (OG p M i j):=by unfold OG;infer_instance
def Vl (p:Int) (M:ed) (i:Nat):Prop:=∀j,j<i+1->OG p M i j
instance (p:Int) (M:ed) (i:Nat):Decidable (Vl p M i):=by unfold Vl;infer_instance
def np (p a b:Int):Prop:=∃q,a=b+p*q
theorem np.refl (p a:Int):np p a a:=⟨0,by simp⟩
theorem np.trans {p a b c:Int} (h:np p a b) (h':np p b c):np p a c:=by obtain⟨q,rfl⟩:=h;obtain⟨d,rfl⟩:=h';exact⟨d+q,by rw[Int.mul_add];omega⟩
theorem np.symm {p a b:Int} (h:np p a b):np p b a:=by obtain⟨q,rfl⟩:=h;exact⟨-q,by rw[zbY];omega⟩
theorem np.add {p a b c d:Int} (h:np p a b) (h':np p c d):np p (a+c) (b+d):=by obtain⟨q,rfl⟩:=h;obtain⟨e,rfl⟩:=h';exact⟨q+e,by grind⟩
theorem np.mul {p a b c d:Int} (h:np p a b) (h':np p c d):np p (a*c) (b*d):=by obtain⟨q,rfl⟩:=h;obtain⟨e,rfl⟩:=h';exact⟨q*d+b*e+p*q*e,by grind⟩
section
variable {p inv:Int} {n k:Nat} {A:ed}
end
section
variable {p:Int} {n:Nat} {M:ed}
end
section
variable {p:Int} {n:Nat} {M:ed}
end

section
variable {p:Int} {n m:Nat} {a b a2 b2:U} {ms SJ:List kK}
end
def aeL:Nat->U->U
 |0,l=>l
 |k+1,l=>if l.getD (k+1) 0<l.getD k 0 then aeL k (bh (bh l (k+1) (l.getD k 0)) k (l.getD (k+1) 0)) else l
def aeX (l:U):Nat->U
 |0=>l
 |i+1=>aeL i (aeX l i)
def sN (f:Nat->Nat):Nat->Nat
 |0=>0
 |q+1=>sN f q+f q
def Ig (L D S:U):U:=kU S.length fun i=>D.getD (cq L (S.getD i 0)) 0
def gP (L D S:U) (n:Nat) (v:Int):Nat:=(nV (Ig L D S) n (cq S v)).toNat*iJ D (cq L v+1)
def acg (L D S:U) (n:Nat):Nat:=sN (fun i=>gP L D S n (S.getD i 0)) S.length
def acy (x:Rg×T3×U):Prop:=jT x.1 x.2.1=true/\x.2.2=aeX x.2.1.1 x.2.1.1.length
instance (x:Rg×T3×U):Decidable (acy x):=by unfold acy;infer_instance
def MN (l:U) (b:Int):Prop:=l.length<=12/\∀x∈l,0<=x/\x<=b
instance (l:U) (b:Int):Decidable (MN l b):=by unfold MN;infer_instance
def TT (l:U) (b:Int):Prop:=l.length<=24/\∀x∈l,0<=x/\x<=b
instance (l:U) (b:Int):Decidable (TT l b):=by unfold TT;infer_instance
theorem MN.m {l:U} {b:Int} (h:MN l b):TT l b:=⟨zbI h.1 (by decide),h.2⟩
def M7 (L D S:U):U:=kU S.length fun i=>if cq L (S.getD i 0)<L.length then((iJ D (cq L (S.getD i 0)+1):Nat):Int) else 0
theorem Me {f g:Nat->Nat}:∀q,(∀i,i<q->f i=g i)->sN f q=sN g q
 |0,_=>rfl
 |q+1,h=>by simp only[sN];rw[Me q fun i hi=>h i (by omega),h q (by omega)]
theorem adg (g:Int->Nat) (l:U):∀q,q<=l.length->sN (fun i=>g (l.getD i 0)) q=((l.take q).map g).sum
 |0,_=>by simp[sN]
 |q+1,h=>by simp only[sN];rw[adg g l q (by omega),List.take_succ_eq_append_getElem (by omega),zbg,List.sum_append_nat,AI,co (by omega)];simp
theorem Mf (g:Int->Nat) (l:U):sN (fun i=>g (l.getD i 0)) l.length=(l.map g).sum:=by rw[adg g l _ (zac _),zat]
theorem arj {S L:U} (h:S.Perm L) (g:Int->Nat):sN (fun i=>g (S.getD i 0)) S.length=sN (fun i=>g (L.getD i 0)) L.length:=by rw[Mf,Mf];exact(h.map g).sum_nat
theorem iW {l:U} {v:Int} (h:v∈l):cq l v<l.length:=by refine Nat.lt_of_le_of_ne (LS l v) fun e=>?_;obtain⟨i,a⟩:=zbl h;have hl:=(IN.1 a).1;exact LR (by omega) a
theorem qd {l:U} {v:Int} (h:v∈l):l.getD (cq l v) 0=v:=by rw[AI,Ii (iW h)];rfl
theorem g9 {l:U} {i:Nat} (h:i<l.length):l.getD i 0∈l:=by rw[AI,co h];exact List.getElem_mem h
theorem nF {l:U} (hn:l.Nodup) {i:Nat} (h:i<l.length):cq l (l.getD i 0)=i:=by have hm:=g9 h;have b:=iW hm;have a:=Ii b;rw[co b] at a;have e:l[cq l (l.getD i 0)]=l[i]:=(by injection a with a;rw[a,AI,co h];rfl);exact(List.getElem_inj hn).1 e
structure Cm (L D S:U):Prop where
 p:S.Perm L
 nL:L.Nodup
 nS:S.Nodup
 len:L.length=D.length
 fe:L.length<=12
 Ai:∀x∈D,1<=x/\x<=8
section
variable {L D S:U} (I:Cm L D S)
include I
theorem Cm.inv {q k:Nat} (b:q<S.length) (a:k<L.length):cq L (S.getD q 0)=k↔cq S (L.getD k 0)=q:=by have m1:S.getD q 0∈L:=I.p.mem_iff.1 (g9 b);have m2:L.getD k 0∈S:=I.p.mem_iff.2 (g9 a);constructor;intro e;have:=qd m1;rw[e] at this;rw[this,nF I.nS b];intro e;have:=qd m2;rw[e] at this;rw[this,nF I.nL a]
theorem Cm.nW:nW D:=⟨by have:=I.len;have:=I.fe;omega,fun x hx=>by have:=I.Ai x hx;omega⟩
omit I in
omit I in
def LK (L D S:U) (n:Nat):U:=kU D.length fun k=>nV (Ig L D S) n (cq S (L.getD k 0))
theorem Cm.pd {i:Nat} (a:i<S.length):(Ig L D S).getD i 0=D.getD (cq L (S.getD i 0)) 0:=by unfold Ig;rw[AI,xf _ a];rfl
omit I in
theorem ace {D ix:U} (h:∀k,k<D.length->(ix.getD k 0).toNat<(D.getD k 0).toNat):∀j,j<=D.length->(pg D ix j+1)*iJ D j<=bD D
 |0,_=>by simp[pg,iJ]
 |j+1,hj=>by have a:=ace h j (by omega);have hk:=h j (by omega);rw[Nf (by omega),<-zbA] at a;refine zbI (zaw _ ?_) a;simp only[pg];rw[zaK,zaJ];omega
omit I in
theorem SQ {D ix:U}:∀j,j<=D.length->pg D ix j*iJ D j=sN (fun k=>(ix.getD k 0).toNat*iJ D (k+1)) j
 |0,_=>by simp[pg,sN]
 |j+1,hj=>by simp only[pg,sN];rw[<-SQ j (by omega),Nf (i:=j) (by omega),zaK,zbA]
theorem Cm.apb (n:Nat) {k:Nat} (a:k<D.length):(LK L D S n).getD k 0=nV (Ig L D S) n (cq S (L.getD k 0)):=by unfold LK;rw[AI,xf _ a];rfl
theorem Cm.off (n:Nat):pg D (LK L D S n) D.length=acg L D S n:=by have a:=SQ (D:=D) (ix:=LK L D S n) D.length (zac _);rw[EZ,zbX] at a;rw[a];unfold acg;rw[arj I.p (gP L D S n),I.len];refine Me _ fun k b=>?_;rw[I.apb n b];unfold gP;rw[nF I.nL (by have:=I.len;omega)]
end
abbrev Bk:=U×U×U×U
def pG (of:U) (x:Int):Nat->U
 |0=>[]
 |n+1=>if of.getD n 0=x then pG of x n++[(n:Int)] else pG of x n
def vals (of:U) (x:Int):U:=pG of x of.length
def Vs (V:List U) (ix:U):U:=kU ix.length fun i=>(V.getD i []).getD (ix.getD i 0).toNat 0
def OH (V:List U) (ix:U):Prop:=ix.length<=12/\∀i,i<ix.length->i<V.length/\0<=ix.getD i 0/\(ix.getD i 0).toNat<(V.getD i []).length
instance (V:List U) (ix:U):Decidable (OH V ix):=by unfold OH;infer_instance
def UE (R:List U) (ch:U):List U:=(zai ch.length).map fun i=>vals (R.getD i []) (ch.getD i 0)
def jX (R:List U) (ch:U):U:=kU ch.length fun i=>((vals (R.getD i []) (ch.getD i 0)).length:Int)
def nR (R:List U) (ch:U):Prop:=ch.length=R.length/\∀i,i<R.length->ch.getD i 0∈R.getD i []
instance (R:List U) (ch:U):Decidable (nR R ch):=by unfold nR;infer_instance
def VF (x:T3×mW×Bk):Prop:=O4 (x.1,x.2.1)=true/\nR x.2.1.2 x.2.2.1/\x.2.2.2.2.1=jX x.2.1.2 x.2.2.1
instance (x:T3×mW×Bk):Decidable (VF x):=by unfold VF;infer_instance
theorem afO (of:U) (x:Int):∀n,(pG of x n).length<=n
 |0=>zac 0
 |n+1=>by have ih:=afO of x n;simp only[pG];split;rw[zah,List.length_singleton];omega;omega
theorem Nn (of:U) (x:Int):∀n v,v∈pG of x n->∃i:Nat,i<n/\v=(i:Int)/\of.getD i 0=x
 |0,v,h=>by cases h
 |n+1,v,h=>by simp only[pG] at h;split at h;rename_i e;rcases zbV.1 h with h|h;obtain⟨i,b,a⟩:=Nn of x n v h;exact⟨i,by omega,a⟩;exact⟨n,by omega,za0.1 h,e⟩;obtain⟨i,b,a⟩:=Nn of x n v h;exact⟨i,by omega,a⟩
theorem UD {of:U} {x:Int}:∀{n i:Nat},i<n->of.getD i 0=x->(i:Int)∈pG of x n
 |n+1,i,h,e=>by by_cases b:i=n;subst b;simp only[pG,ak e];simp;have a:=UD (of:=of) (x:=x) (show i<n by omega) e;simp only[pG];split;exact List.mem_append_left _ a;exact a
theorem afQ {of:U} {x:Int} (h:x∈of):0<(vals of x).length:=by obtain⟨i,a,e⟩:=zar.1 h;exact List.length_pos_of_mem (UD (of:=of) (x:=x) a (by rw[AI,co a];exact e))
theorem afP (of:U) (x:Int):(vals of x).length<=of.length:=afO of x of.length
def gL {α:Type} (n:Nat) (f:Nat->α):List α:=(zai n).map f
theorem Yj {α:Type} (n:Nat) (f:Nat->α):(gL n f).length=n:=by simp[gL]
theorem Yi {α:Type} {n j:Nat} (f:Nat->α) (h:j<n):(gL n f)[j]? =some (f j):=by simp[gL,zaW h]
theorem Yh {α:Type} {n:Nat} {f g:Nat->α} (h:∀j,j<n->f j=g j):gL n f=gL n g:=GB fun j a=>h j (zay.1 a)
theorem ajQ {α:Type} {n j:Nat} (f:Nat->α) (d:α) (h:j<n):(gL n f).getD j d=f j:=by rw[AI,Yi f h];rfl
theorem Ta:∀{A B:U},A.length=B.length->(∀i,i<A.length->(A.getD i 0).toNat<=(B.getD i 0).toNat)->bD A<=bD B
 |[],[],_,_=>zac _
 |a::A,b::B,hl,h=>by have c:=h 0 (by simp);have d:=Ta (A:=A) (B:=B) (by simpa using hl) fun i hi=>(by simpa using h (i+1) (by simp;omega));simp only[bD];exact zbp (by simpa using c) d
structure nI (D:U) (m:Int) (R:List U):Prop where
 m1:1<=m
 m12:m<=12
 fe:D.length<=12
 d8:∀x∈D,1<=x/\x<=8
 g:nW D
 p1:1<=bD D
 p4:bD D<=4096
 rl:R.length=D.length
 row:∀i,i<D.length->((R.getD i []).length:Int)=D.getD i 0
 al:∀i,i<D.length->∀v∈R.getD i [],0<=v/\v<m
section
variable {D:U} {m:Int} {R:List U}
theorem nI.Ai (H:nI D m R) {i:Nat} (a:i<D.length):1<=D.getD i 0/\D.getD i 0<=8:=H.d8 _ (g9 a)
theorem ahF (R:List U) (ch:U):(jX R ch).length=ch.length:=rm _ _
theorem Wm {ch:U} {i:Nat} (h:i<ch.length:=by omega):(jX R ch).getD i 0=((vals (R.getD i []) (ch.getD i 0)).length:Int):=by rw[AI,jX,xf _ h];rfl
structure BkF (D:U) (R:List U) (ch:U):Prop where
 cl:ch.length=D.length
 bl:(jX R ch).length=D.length
 b:∀i,i<D.length->1<=(jX R ch).getD i 0/\(jX R ch).getD i 0<=D.getD i 0
 b8:∀x∈jX R ch,1<=x/\x<=8
 g:nW (jX R ch)
 p1:1<=bD (jX R ch)
 pD:bD (jX R ch)<=bD D
theorem nI.blk (H:nI D m R) {ch:U} (d:nR R ch):BkF D R ch:=by obtain⟨h1,h⟩:=d;have Q7:=H.rl;have b:∀i,i<D.length->1<=(jX R ch).getD i 0/\(jX R ch).getD i 0<=D.getD i 0:=fun i a=>(by rw[Wm];have f:=afQ (h i (by omega));have g:=afP (R.getD i []) (ch.getD i 0);have a3:=H.row i a;omega);have hl:(jX R ch).length=D.length:=(by rw[ahF];omega);have c:∀x∈jX R ch,1<=x/\x<=8:=fun x hx=>(by obtain⟨i,a,rfl⟩:=zar.1 hx;have e:(jX R ch)[i]=(jX R ch).getD i 0:=(by rw[AI,co a];rfl);have f:=b i (by omega);have g:=H.Ai (i:=i) (by omega);rw[e];omega);have akn:=H.fe;exact⟨by omega,hl,b,c,⟨by omega,fun x hx=>by have:=c x hx;omega⟩,Il fun x hx=>(c x hx).1,Ta hl fun i a=>by have:=b i (by omega);omega⟩
theorem asN {ch:U} {i:Nat} (h:i<ch.length):(UE R ch).getD i []=vals (R.getD i []) (ch.getD i 0):=ajQ _ _ h
theorem nI.at (H:nI D m R) {ch:U} (b:nR R ch) (n:Nat):OH (UE R ch) (cK (jX R ch) n):=by
 have B:=H.blk b;have akn:=H.fe;have Du:(cK (jX R ch) n).length=D.length:=(rm _ _).trans B.bl;refine⟨by omega,fun i hi=>?_⟩;have a:i<D.length:=by omega
 have cJ:=B.cl;obtain⟨d,d1,c,f,d4,d5⟩:=Wo B.g (i:=i) (by rw[B.bl];exact a);have e:(cK (jX R ch) n).getD i 0=((n/iJ (jX R ch) (i+1)%d:Nat):Int):=by rw[yo (by rw[B.bl];exact a)];unfold nV;rw[f]
 have cm:=zbZ (n/iJ (jX R ch) (i+1)) (show 0<d by omega);rw[Wm] at c;have mg:(UE R ch).length=ch.length:=Yj _ _;rw[e,If,asN (by omega)];exact⟨by omega,by omega,by omega⟩
end
end Go.Am
