/- S6, AmY, AmZ, S7, MB, B0, B1, B2, MT, Mx, M1, M4, M5, M11, M22, M6, M7, M8, M9, M23, M24, M25, M31, Fm, M14, M15, M16, M17, M19, M33, M32, M34, M62, M64: parts of the proof. No condition. -/
import Derived.Test.YtfhgbfllljehhaaS5
import Derived.Laws.BitsLemmas
set_option linter.unusedVariables false
set_option linter.unusedSimpArgs false
set_option synthInstance.maxSize 1000
set_option synthInstance.maxHeartbeats 400000
open List renaming getElem?_eq_getElem->co,length_map->By,getElem?_eq_none->BY,map_cons->GB,getElem?_eq_some_iff->If,map_congr_left->IN,length_cons->IS,replicate->OF,length_append->Pe,getElem?_map->zad,getElem?_append_right->zae,ext_getElem?->zag,range->zal,length_take->zan,mem_cons_of_mem->zao,map_map->zap,filterMap_cons->zaq,getElem?_append_left->zau,mem_of_getElem?->zaw,length_nil->zax,mem_cons_self->zaz,map_append->zaA,set_append_right->zaC,getD_eq_getElem?_getD->zaE,drop_eq_getElem_cons->zaF,map_nil->zaG,getElem?_drop->zaK,take_add_one->zaM,mem_range->zaO,mem_iff_getElem->zaS,mem_of_mem_take->zaT,mem_of_mem_drop->zaU,all_cons->zaW,any_map->za0,getElem?_take->za2,getElem?_eq_none_iff->za3,getD->za7,length_range->za8,length->zbb,range'->zbc,take_length->zbg,all_eq_true->zbh,take_of_length_le->zbj,getElem?_set_self->zbk,range_succ->zbt,map->zbx,getElem_of_mem->zbz,replicate_succ->zbA,getElem?_range->zbC,mem_cons->zbF,any_cons->zbG,mem_singleton->zbI,getElem?_ofFn->zbJ,any_eq_false->zbM,mem_map->zbO,drop_length->zbR,append_nil->zbV,nil_append->zbW,mem_append->zb0,take_left->zb3,drop_left->zb4,map_set->zcb
open Bool renaming and_eq_true->so,false_eq_true->zaH,not_eq_true'->za6,false_or->zbH,eq_iff_iff->zbT,or_false->zb7,true_and->zb8
open Sum renaming inl->wt,inr->IT
open Nat renaming eq_of_beq_eq_true->AI,le_refl->Pd,beq->zab,ble_eq_true_of_le->zaf,mul_comm->zah,ble->zai,mod_eq_of_lt->zar,sub_self->zas,zero_add->zat,dvd_of_mod_eq_zero->zay,le_of_ble_eq_true->zaB,mul_div_cancel_left->zaI,mod_eq_zero_of_dvd->zaL,lt_or_ge->zaP,pow_le_pow_right->zaR,mul_le_mul_right->zaV,div_add_mod->zaY,one_mul->zaZ,eq_zero_or_pos->za1,add_mul_mod_self_left->za5,add_mul->zbd,zero_lt_succ->zbe,div_eq_of_lt->zbf,testBit_succ->zbi,beq_refl->zbl,le_of_eq->zbm,add_zero->zbo,min_eq_left->zbq,and_comm->zbr,pow_succ->zbu,testBit_and->zbv,pow_lt_pow_right->zby,mul_le_mul_left->zbE,dvd_trans->zbK,add_sub_cancel->zbL,le_trans->zbN,sub_zero->zbP,add_comm->zbQ,lt_succ_self->zbS,not_lt_zero->zbZ,mul_pos->zb1,add_mod->zb2,mul_le_mul->zb5,mod_lt->zb6,le_of_dvd->zb9,and_assoc->zca,succ_div->zcc,and_self->zce,zero_le->zci,mul_one->zcj
open Option renaming map_some->AN,map_eq_some_iff->zak,bind_eq_some_iff->zba
open Int renaming toNat_natCast->AT,emod_lt_of_pos->zaa,mul_emod->zac,emod_nonneg->zaj,mul_le_mul_of_nonneg_left->zam,mul_le_mul->zav,pow_succ->zaD,emod_emod->zaJ,emod_eq_of_lt->zaN,emod_add_mul_ediv->zaQ,mul_assoc->zaX,mul_nonneg->za4,mul_comm->zbw,mul_one->zbB,le_refl->zbD,one_mul->zbX,min_eq_left->zbY,add_zero->zcd,add_emod->zcf,sub_emod->zcg,pow_zero->zch,mul_neg->zck
open Function renaming comp->za9
open Decidable renaming em->zbn
open Classical renaming choose_spec->zbp
open Option.some renaming inj->zbs,injEq->zcl
open Array renaming replicate->zbU
namespace Go.Am
def SC.hY (ok:Nat->Bool):SC->SC
 |.ptr n k sz off=>match ok n with|true=>.ptr n k sz off|false=>.bZ
 |.sl n sz lo len=>match ok n with|true=>.sl n sz lo len|false=>.bZ
 |.cF n k aO off sz len=>match ok n with|true=>.cF n k aO off sz len|false=>.bZ
 |.dU n k aO off sz i=>match ok n with|true=>.dU n k aO off sz i|false=>.bZ
 |.dh ts x off j n sz len=>match ok n with|true=>.dh ts x off j n sz len|false=>.bZ
 |x=>x
def SC.dX (ok:Nat->Bool):SC->SC
 |.fn f dM=>.fn f (dM.map (SC.hY ok))
 |.v t x=>.v t x
 |.nil ts=>.nil ts
 |.ptr n k sz off=>SC.hY ok (.ptr n k sz off)
 |.dN ts x off=>.dN ts x off
 |.sl n sz lo len=>SC.hY ok (.sl n sz lo len)
 |.cF n k aO off sz len=>SC.hY ok (.cF n k aO off sz len)
 |.dU n k aO off sz i=>SC.hY ok (.dU n k aO off sz i)
 |.dh ts x off j n sz len=>SC.hY ok (.dh ts x off j n sz len)
 |.bZ=>.bZ
theorem SC.G5 (ok:Nat->Bool) (c:SC):(c.hY ok).er=c.er.hY ok:=by cases c with|ptr n k sz off=>simp only[SC.hY,SC.er,aj.hY];cases ok n<;>rfl|sl n sz lo len=>simp only[SC.hY,SC.er,aj.hY];cases ok n<;>rfl|cF n k a off sz len=>simp only[SC.hY,SC.er,aj.hY];cases ok n<;>rfl|dU n k a off sz i=>simp only[SC.hY,SC.er,aj.hY];cases ok n<;>rfl|dh ts x off j n sz len=>simp only[SC.hY,SC.er,aj.hY];cases ok n<;>rfl|_=>rfl
theorem SC.G7 (ok:Nat->Bool) (c:SC):(c.dX ok).er=c.er.dX ok:=by cases c with|fn f dM=>simp only[SC.dX,SC.er,aj.dX,SC.KR,zap];congr 1;exact IN fun c _=>SC.G5 ok c|ptr n k sz off=>exact SC.G5 ok (.ptr n k sz off)|sl n sz lo len=>exact SC.G5 ok (.sl n sz lo len)|cF n k a off sz len=>exact SC.G5 ok (.cF n k a off sz len)|dU n k a off sz i=>exact SC.G5 ok (.dU n k a off sz i)|dh ts x off j n sz len=>exact SC.G5 ok (.dh ts x off j n sz len)|_=>rfl
def SV.dX (ok:Nat->Bool):SV->SV
 |.one c=>.one (c.dX ok)
 |.agg cs=>.agg (cs.map (SC.dX ok))
 |.ct xs=>.ct (xs.map fun x=>(x.1,x.2.map (SC.dX ok)))
 |.arr ts x cs=>.arr ts x (cs.map (SC.dX ok))
 |.oR ts x xs=>.oR ts x (xs.map fun x=>(x.1,x.2.map (SC.dX ok)))
theorem Vx (ok:Nat->Bool) (l:List C):(l.map aj.c).map (aj.dX ok)=l.map .c:=by rw[zap];exact IN fun _ _=>rfl
theorem G6 (ok:Nat->Bool) (cs:List SC):(cs.map (SC.dX ok)).map SC.er=(cs.map SC.er).map (aj.dX ok):=by simp only[zap];exact IN fun c _=>SC.G7 ok c
theorem SV.G7 (ok:Nat->Bool) (v:SV):(v.dX ok).er=v.er.dX ok:=by cases v with|one c=>simp only[SV.dX,SV.er,au.dX,SC.G7]|agg cs=>simp only[SV.dX,SV.er,au.dX,G6]|ct xs=>simp only[SV.dX,SV.er,au.dX,zap];congr 1;exact IN fun x _=>by simp only[za9];rw[G6]|arr ts x cs=>simp only[SV.dX,SV.er,au.dX,zaA,Vx,G6]|oR ts x xs=>simp only[SV.dX,SV.er,au.dX,GB,Vx,zap];congr 2;exact IN fun x _=>by simp only[za9];rw[G6]
def SB.dX (ok:Nat->Bool):SB->SB
 |.box cs=>.box (cs.map (SC.dX ok))
 |.row gr m ts xs=>.row gr m ts xs
 |.ef ts x cs=>.ef ts x (cs.map (SC.dX ok))
theorem SB.G7 (ok:Nat->Bool) (b:SB):(b.dX ok).er=b.er.dX ok:=by cases b with|box cs=>simp only[SB.dX,SB.er,aA.dX,G6]|row gr m ts xs=>rfl|ef ts x cs=>simp only[SB.dX,SB.er,aA.dX,zaA,Vx,G6]
def FY (ok:Nat->Bool) (env:Nat->SV):List Nat->(Nat->SV)
 |[]=>fun _=>.one .bZ
 |s::ss=>aV (FY ok env ss) s ((env s).dX ok)
def Bj (ok:Nat->Bool) (h:Nat->Option SB):List Nat->(Nat->Option SB)
 |[]=>fun _=>none
 |s::ss=>match ok s with
  |true=>match h s with
   |some b=>aV (Bj ok h ss) s (some (b.dX ok))
   |none=>Bj ok h ss
  |false=>Bj ok h ss
def xK (ok:Nat->Bool):List Nat->(Nat->Bool)
 |[]=>fun _=>false
 |s::ss=>match ok s with
  |true=>aV (xK ok ss) s true
  |false=>xK ok ss
theorem amJ (ok:Nat->Bool) (env:Nat->SV):∀l,vp (FY ok env l)=A6 ok (vp env) l
 |[]=>rfl
 |s::ss=>by simp only[FY,A6,B5,amJ ok env ss,SV.G7];rfl
theorem So (ok:Nat->Bool) (h:Nat->Option SB):∀l,dT (Bj ok h l)=v5 ok (dT h) l
 |[]=>rfl
 |s::ss=>by simp only[Bj,v5];cases ok s with|false=>simp only[So ok h ss,zaH,if_false]|true=>have:dT h s=(h s).map SB.er:=rfl;simp only[if_true,this];cases h s with|none=>simp only[Option.map_none,So ok h ss]|some b=>simp only[O8,So ok h ss,AN,SB.G7]
theorem amK (ok:Nat->Bool):∀l,xK ok l=A7 ok l
 |[]=>rfl
 |s::ss=>by simp only[xK,A7];cases ok s<;>simp[amK ok ss]
theorem aaQ (ok:Nat->Bool) (env:Nat->SV):∀(l:List Nat) (s:Nat),s∉l->FY ok env l s=.one .bZ
 |[],s,_=>rfl
 |a::l,s,h=>by simp only[zbF,not_or] at h;simp only[FY,dJ _ _ _ _ h.1,aaQ ok env l s h.2]
theorem aaR (ok:Nat->Bool) (hp:Nat->Option SB):∀(l:List Nat) (s:Nat),s∉l->Bj ok hp l s=none
 |[],s,_=>rfl
 |a::l,s,h=>by simp only[zbF,not_or] at h;have c:=aaR ok hp l s h.2;simp only[Bj];cases ok a with|false=>exact c|true=>cases hp a with|none=>exact c|some b=>simp only[dJ _ _ _ _ h.1];exact c
theorem aaS (ok:Nat->Bool):∀(l:List Nat) (s:Nat),s∉l->xK ok l s=false
 |[],s,_=>rfl
 |a::l,s,h=>by simp only[zbF,not_or] at h;have b:=aaS ok l s h.2;simp only[xK];cases ok a with|false=>exact b|true=>simp only[dJ _ _ _ _ h.1];exact b
def SC.C5 (n:Nat):SC->Bool
 |.ptr m _ _ _=>zab m n
 |.sl m _ _ _=>zab m n
 |.cF m _ _ _ _ _=>zab m n
 |.dU m _ _ _ _ _=>zab m n
 |.dh _ _ _ _ m _ _=>zab m n
 |_=>false
def SC.iN (n:Nat):SC->Bool
 |.fn _ dM=>dM.any (SC.C5 n)
 |.ptr m _ _ _=>zab m n
 |.sl m _ _ _=>zab m n
 |.cF m _ _ _ _ _=>zab m n
 |.dU m _ _ _ _ _=>zab m n
 |.dh _ _ _ _ m _ _=>zab m n
 |.v _ _=>false
 |.nil _=>false
 |.dN _ _ _=>false
 |.bZ=>false
theorem GN (m n:Nat):(m==n)=zab m n:=by rw[zbT,beq_iff_eq];exact⟨fun h=>by rw[h];exact zbl n,AI⟩
theorem SC.azl (n:Nat) (c:SC):c.er.C5 n=c.C5 n:=by cases c<;>simp[SC.er,aj.C5,SC.C5,GN]
theorem SC.Re (n:Nat) (c:SC):c.er.iN n=c.iN n:=by cases c with|fn f dM=>simp only[SC.er,SC.KR,aj.iN,SC.iN,za0];congr 1;funext c;exact SC.azl n c|ptr m _ _ _=>exact GN m n|sl m _ _ _=>exact GN m n|cF m _ _ _ _ _=>exact GN m n|dU m _ _ _ _ _=>exact GN m n|dh _ _ _ _ m _ _=>exact GN m n|_=>rfl
def SV.iN (n:Nat):SV->Bool
 |.one c=>c.iN n
 |.agg cs=>cs.any (SC.iN n)
 |.ct xs=>xs.any fun x=>x.2.any (SC.iN n)
 |.arr _ _ cs=>cs.any (SC.iN n)
 |.oR _ _ xs=>xs.any fun x=>x.2.any (SC.iN n)
theorem adn (n:Nat) (l:List C):(l.map aj.c).any (aj.iN n)=false:=by rw[za0];induction l with|nil=>rfl|cons c l a=>rw[zbG,a];rfl
theorem M7 (n:Nat) (cs:List SC):(cs.map SC.er).any (aj.iN n)=cs.any (SC.iN n):=by rw[za0];congr 1;funext c;exact SC.Re n c
theorem ado (n:Nat) (l:List C) (cs:List SC):(l.map aj.c++cs.map SC.er).any (aj.iN n)=cs.any (SC.iN n):=by rw[List.any_append,adn,zbH,M7]
theorem SV.Re (n:Nat) (v:SV):v.er.iN n=v.iN n:=by cases v with|one c=>exact SC.Re n c|agg cs=>exact M7 n cs|ct xs=>simp only[SV.er,au.iN,SV.iN,za0];congr 1;funext x;exact M7 n x.2|arr ts x cs=>exact ado n _ cs|oR ts x xs=>have e:=adn n (Ty.aE ts x);simp only[SV.er,au.iN,SV.iN,zbG];refine(congrArg (·||_) e).trans ?_;rw[zbH,za0];congr 1;funext x;exact M7 n x.2
def aki (n:Nat):Option SB->Bool
 |some (.box cs)=>cs.any (SC.iN n)
 |some (.ef _ _ cs)=>cs.any (SC.iN n)
 |_=>false
def O6 (n:Nat):List Nat->Bool
 |[]=>false
 |m::l=>match zab n m with
  |true=>true
  |false=>O6 n l
theorem adJ (n:Nat):∀l:List Nat,O6 n l=l.contains n
 |[]=>rfl
 |m::l=>by simp only[O6,List.contains_cons];have e:(n==m)=zab n m:=(by cases h:zab n m with|true=>simpa using AI h|false=>simp;intro h';rw[h',zbl] at h;cases h);rw[e,adJ n l];cases zab n m<;>rfl
def ai.mN (σ:ai) (ke kh:List Nat):Nat->Bool:=fun n=>(σ.h n).isSome&&O6 n kh&&(zai aL n||ke.any (fun s=>(σ.env s).iN n)||kh.any fun k=>aki n (σ.h k))
theorem ai.axw (σ:ai) (ke a:List Nat):σ.er.mN ke a=σ.mN ke a:=by
 funext n;simp only[St.mN,ai.mN];have c:(σ.er.h n).isSome=(σ.h n).isSome:=adO σ.h n;have e:(fun s=>(σ.er.env s).iN n)=fun s=>(σ.env s).iN n:=by funext s;exact SV.Re n _
 have d:(fun k=>match σ.er.h k with|some (.box cs)=>cs.any (·.iN n)|_=>false)=fun k=>aki n (σ.h k):=by
  funext k;have:σ.er.h k=(σ.h k).map SB.er:=rfl;rw[this];cases σ.h k with
  |none=>rfl
  |some b=>cases b with
   |box cs=>exact M7 n cs
   |row gr m ts xs=>rfl
   |ef ts x cs=>exact ado n _ cs
 rw[c,e,adJ,Bool.and_comm (x:=(σ.h n).isSome)];exact congrArg (fun g:Nat->Bool=>(a.contains n&&(σ.h n).isSome&&((zai aL n||ke.any fun s=>SV.iN n (σ.env s))||a.any g))) d
def ai.lG (σ:ai) (ke kh:List Nat):ai:=
 {env:=FY (σ.mN ke kh) σ.env ke,h:=Bj (σ.mN ke kh) σ.h kh,used:=fun n=>zai aL n||xK (σ.mN ke kh) kh n}
theorem ai.ZK (σ:ai) (ke a:List Nat):(σ.lG ke a).er=σ.er.lG ke a:=by simp only[ai.lG,St.lG,ai.axw];have c:=amJ (σ.mN ke a) σ.env ke;have d:=So (σ.mN ke a) σ.h a;have b:=amK (σ.mN ke a) a;show St.mk (vp (FY (σ.mN ke a) σ.env ke)) (dT (Bj (σ.mN ke a) σ.h a)) (fun n=>zai aL n||xK (σ.mN ke a) a n)=_;rw[c,d,b];rfl
def wu (x c n:Nat):Nat:=match zab n x with|true=>c|false=>n
theorem Jh (x c n:Nat):wu x c n=rO x c n:=by unfold wu rO;cases h:zab n x with|true=>rw[ah (AI h)]|false=>rw[ak (fun e=>by rw[e,zbl] at h;cases h)]
def SC.sM (x c:Nat):SC->SC
 |.ptr n k sz off=>.ptr (wu x c n) k sz off
 |.sl n sz lo len=>.sl (wu x c n) sz lo len
 |.cF n k aO off sz len=>.cF (wu x c n) k aO off sz len
 |.dU n k aO off sz i=>.dU (wu x c n) k aO off sz i
 |.dh ts y off j n sz len=>.dh ts y off j (wu x c n) sz len
 |y=>y
def SC.bN (x c:Nat):SC->SC
 |.fn f dM=>.fn f (dM.map (SC.sM x c))
 |.ptr n k sz off=>.ptr (wu x c n) k sz off
 |.sl n sz lo len=>.sl (wu x c n) sz lo len
 |.cF n k aO off sz len=>.cF (wu x c n) k aO off sz len
 |.dU n k aO off sz i=>.dU (wu x c n) k aO off sz i
 |.dh ts y off j n sz len=>.dh ts y off j (wu x c n) sz len
 |.v t y=>.v t y
 |.nil ts=>.nil ts
 |.dN ts y off=>.dN ts y off
 |.bZ=>.bZ
theorem SC.azp (x c:Nat) (y:SC):(y.sM x c).er=y.er.sM x c:=by cases y<;>simp[SC.sM,SC.er,aj.sM,Jh]
theorem SC.C7 (x c:Nat) (y:SC):(y.bN x c).er=y.er.bN x c:=by cases y with|fn f dM=>simp only[SC.bN,SC.er,aj.bN,SC.KR,zap];congr 1;exact IN fun y _=>SC.azp x c y|ptr n k sz off=>simp only[SC.bN,SC.er,aj.bN,aj.sM,Jh]|sl n sz lo len=>simp only[SC.bN,SC.er,aj.bN,aj.sM,Jh]|cF n k a off sz len=>simp only[SC.bN,SC.er,aj.bN,aj.sM,Jh]|dU n k a off sz i=>simp only[SC.bN,SC.er,aj.bN,aj.sM,Jh]|dh ts y off j n sz len=>simp only[SC.bN,SC.er,aj.bN,aj.sM,Jh]|_=>rfl
theorem IV (x c:Nat) (cs:List SC):(cs.map (SC.bN x c)).map SC.er=(cs.map SC.er).map (aj.bN x c):=by simp only[zap];exact IN fun y _=>SC.C7 x c y
def SV.bN (x c:Nat):SV->SV
 |.one y=>.one (y.bN x c)
 |.agg ys=>.agg (ys.map (SC.bN x c))
 |.ct ys=>.ct (ys.map fun y=>(y.1,y.2.map (SC.bN x c)))
 |.arr ts y cs=>.arr ts y (cs.map (SC.bN x c))
 |.oR ts z ys=>.oR ts z (ys.map fun y=>(y.1,y.2.map (SC.bN x c)))
theorem Vy (x c:Nat) (l:List C):(l.map aj.c).map (aj.bN x c)=l.map .c:=by rw[zap];exact IN fun _ _=>rfl
theorem SV.C7 (x c:Nat) (v:SV):(v.bN x c).er=v.er.bN x c:=by cases v with|one y=>simp only[SV.bN,SV.er,au.bN,SC.C7]|agg cs=>simp only[SV.bN,SV.er,au.bN,IV]|ct xs=>simp only[SV.bN,SV.er,au.bN,zap];congr 1;exact IN fun y _=>by simp only[za9];rw[IV]|arr ts y cs=>simp only[SV.bN,SV.er,au.bN,zaA,Vy,IV]|oR ts z xs=>simp only[SV.bN,SV.er,au.bN,GB,Vy,zap];congr 2;exact IN fun y _=>by simp only[za9];rw[IV]
def SB.bN (x c:Nat):SB->SB
 |.box cs=>.box (cs.map (SC.bN x c))
 |.row gr m ts xs=>.row gr m ts xs
 |.ef ts y cs=>.ef ts y (cs.map (SC.bN x c))
theorem SB.C7 (x c:Nat) (b:SB):(b.bN x c).er=b.er.bN x c:=by cases b with|box cs=>simp only[SB.bN,SB.er,aA.bN,IV]|row gr m ts xs=>rfl|ef ts y cs=>simp only[SB.bN,SB.er,aA.bN,zaA,Vy,IV]
def ai.bN (σ:ai) (x c:Nat):Option ai:=
  match zab x c with
  |true=>some σ
  |false=>match zai aL x with
   |true=>some σ
   |false=>match σ.used c with
    |true=>none
    |false=>some
     {env:=fun s=>(σ.env s).bN x c
      h:=fun n=>match zab n c with
        |true=>(σ.h x).map (SB.bN x c)
        |false=>match zab n x with
         |true=>none
         |false=>(σ.h n).map (SB.bN x c)
      used:=fun n=>match zab n c with
        |true=>σ.used x
        |false=>match zab n x with
         |true=>false
         |false=>σ.used n}
theorem CZ {m n:Nat} (h:zab m n=false):m≠n:=fun e=>by rw[e,zbl] at h;cases h
theorem ai.C7 {σ σ1:ai} {x c:Nat} (h:σ.bN x c=some σ1):σ.er.bN x c=some σ1.er:=by
 unfold ai.bN at h;split at h
 ·rename_i e;injection h with h;subst h;simp[St.bN,AI e]
 ·rename_i e;split at h
  ·rename_i hx;injection h with h;subst h;simp only[St.bN,ak (CZ e),hx,if_true]
  rename_i hx;split at h
  ·cases h
  ·rename_i g;injection h with h;subst h;have f:σ.er.used c=false:=g;simp only[St.bN,ak (CZ e),hx,f,zaH,if_false];congr 1;have mm:∀o:Option SB,(o.map (SB.bN x c)).map SB.er=(o.map SB.er).map (·.bN x c):=by
    intro o;cases o with
    |none=>rfl
    |some b=>simp only[AN,SB.C7]
   have i:(fun s=>(σ.er.env s).bN x c)=vp (fun s=>(σ.env s).bN x c):=by
    funext s;exact(SV.C7 x c (σ.env s)).symm
   have d:(fun n=>if n=c then(σ.er.h x).map (·.bN x c) else if n=x then none else(σ.er.h n).map (·.bN x c))=dT (fun n=>match zab n c with
     |true=>(σ.h x).map (SB.bN x c)
     |false=>match zab n x with
      |true=>none
      |false=>(σ.h n).map (SB.bN x c)):=by
    funext n;simp only[dT];cases hc:zab n c with
    |true=>rw[ah (AI hc)];exact(mm (σ.h x)).symm
    |false=>
     rw[ak (CZ hc)];cases hx:zab n x with
     |true=>rw[ah (AI hx)];rfl
     |false=>rw[ak (CZ hx)];exact(mm (σ.h n)).symm
   have a:(fun n=>if n=c then σ.er.used x else if n=x then false else σ.er.used n)=(fun n=>match zab n c with
     |true=>σ.used x
     |false=>match zab n x with
      |true=>false
      |false=>σ.used n):=by
    funext n;cases hc:zab n c with
    |true=>rw[ah (AI hc)];rfl
    |false=>
     rw[ak (CZ hc)];cases hx:zab n x with
     |true=>rw[ah (AI hx)]
     |false=>rw[ak (CZ hx)];rfl
   rw[i,d,a];rfl
abbrev Cn:=List (Bool×Nat×Nat×Nat×Mode×List Ty)
def Cn.er (cn:Cn):List (Bool×Nat×Nat×Nat×Mode):=cn.map fun x=>(x.1,x.2.1,x.2.2.1,x.2.2.2.1,x.2.2.2.2.1)
def ai.np (σ:ai) (c:Nat):Mode->ai
 |.aQ=>match σ.h c with
  |some (.row gr .aS ts xs)=>σ.fh c (.row gr .aQ ts xs)
  |_=>σ
 |_=>σ
theorem ai.ap3 (σ:ai) (c:Nat) (m:Mode):(σ.np c m).er=σ.er.np c m:=by cases m with|live=>rfl|aS=>rfl|aQ=>simp only[ai.np,St.np];have a:σ.er.h c=(σ.h c).map SB.er:=rfl;rw[a];cases σ.h c with|none=>rfl|some b=>cases b with|box cs=>rfl|row gr m ts xs=>(cases m with|aS=>simp only[AN,SB.er,ai.qC]|live=>rfl|aQ=>rfl)|ef ts x cs=>rfl
def Df (σ:ai):Bool×Nat×Nat×Nat×Mode×List Ty->Option ai
 |(true,n,j,c,m,us)=>match σ.h n with
  |some (.box cs)=>match cs[j]? with
   |some (.sl a _ _ _)=>(σ.bN a c).map fun σ1=>σ1.np c m
   |some (.nil ts)=>match ts with
    |[]=>some σ
    |t::ts=>match σ.ins c (.row true m (t::ts) []) with
     |some σ1=>some (σ1.fh n (.box (cs.set j (.sl c (t::ts).length 0 0))))
     |none=>none
   |_=>some σ
  |some (.ef vs x cs)=>match zai vs.length j with
   |false=>some σ
   |true=>match cs[j - vs.length]? with
    |some (.sl a _ _ _)=>(σ.bN a c).map fun σ1=>σ1.np c m
    |some (.nil ts)=>match ts with
     |[]=>some σ
     |t::ts=>match σ.ins c (.row true m (t::ts) []) with
      |some σ1=>some (σ1.fh n (.ef vs x (cs.set (j - vs.length) (.sl c (t::ts).length 0 0))))
      |none=>none
    |_=>some σ
  |_=>some σ
 |(false,n,j,c,m,us)=>match σ.env n with
  |.one (.sl a _ _ _)=>(σ.bN a c).map fun σ1=>σ1.np c m
  |.one (.nil ts)=>match ts with
   |[]=>some σ
   |t::ts=>match σ.ins c (.row true m (t::ts) []) with
    |some σ1=>some (σ1.put (some n) (.one (.sl c (t::ts).length 0 0)))
    |none=>none
  |_=>some σ
theorem aaP {σ σ1:ai} {a c:Nat} {m:Mode} (h:(σ.bN a c).map (fun σ1=>σ1.np c m)=some σ1):(σ.er.bN a c).map (fun σ1=>σ1.np c m)=some σ1.er:=by rw[zak] at h;obtain⟨σ2,e,rfl⟩:=h;rw[ai.C7 e,AN,ai.ap3]
theorem az4 {σ σ1:ai} {x:Bool×Nat×Nat×Nat×Mode×List Ty} (h:Df σ x=some σ1):σ.er.canon (x.1,x.2.1,x.2.2.1,x.2.2.2.1,x.2.2.2.2.1)=some σ1.er:=by obtain⟨b,n,j,c,m,us⟩:=x;cases b with|true=>simp only[Df] at h;simp only[St.canon];have f:σ.er.h n=(σ.h n).map SB.er:=rfl;rw[f];split at h;rename_i cs hn;simp only[hn,AN,SB.er,zad];split at h;rename_i a _ _ _ hj;simp only[hj,AN,SC.er];exact aaP h;rename_i ts hj;simp only[hj,AN,SC.er];split at h;injection h with h;subst h;rfl;rename_i t ts;split at h;rename_i σ2 e;injection h with h;subst h;have i:=ai.uw e;rw[show(SB.row true m (t::ts) []).er=aA.row true m (t::ts).length [] from rfl] at i;simp only[IS,zbe,if_true] at i⊢;rw[i];simp only[ai.qC,SB.er,zcb,SC.er,IS];cases h;rename_i hs d;injection h with h;subst h;(cases hj:cs[j]? with|none=>rfl|some y=>cases y<;>first|rfl|(exfalso;exact hs _ _ _ _ hj)|(exfalso;exact d _ hj));rename_i vs x cs hn;simp only[hn,AN,SB.er];have hl:((Ty.aE vs x).map aj.c).length=vs.length:=(by rw[By,Ty.mC]);split at h;rename_i hb;have g:j<vs.length:=(by have:¬vs.length<=j:=fun k=>(by rw[zaf k] at hb;cases hb);omega);injection h with h;subst h;rw[zau (by rw[hl];exact g),zad];cases (Ty.aE vs x)[j]? <;>rfl;rename_i hb;replace hb:=zaB hb;rw[zae (by rw[hl];exact hb),hl,zad];split at h;rename_i a _ _ _ hj;simp only[hj,AN,SC.er];exact aaP h;rename_i ts hj;simp only[hj,AN,SC.er];split at h;injection h with h;subst h;rfl;rename_i t ts;split at h;rename_i σ2 e;injection h with h;subst h;have i:=ai.uw e;rw[show(SB.row true m (t::ts) []).er=aA.row true m (t::ts).length [] from rfl] at i;simp only[IS,zbe,if_true] at i⊢;rw[i];simp only[ai.qC,SB.er,zaC _ _ (zbN (zbm hl) hb),hl,zcb,SC.er,IS];cases h;rename_i hs d;injection h with h;subst h;(cases hj:cs[j - vs.length]? with|none=>rfl|some y=>cases y<;>first|rfl|(exfalso;exact hs _ _ _ _ hj)|(exfalso;exact d _ hj));rename_i hb l;injection h with h;subst h;(cases hn:σ.h n with|none=>rfl|some b=>cases b with|box cs=>exact absurd hn (hb cs)|row gr m ts xs=>rfl|ef ts x cs=>exact absurd hn (l ts x cs))|false=>simp only[Df] at h;simp only[St.canon];have f:σ.er.env n=(σ.env n).er:=rfl;rw[f];split at h;rename_i a _ _ _ hn;simp only[hn,SV.er,SC.er];exact aaP h;rename_i ts hn;simp only[hn,SV.er,SC.er];split at h;injection h with h;subst h;rfl;rename_i t ts;split at h;rename_i σ2 e;injection h with h;subst h;have i:=ai.uw e;rw[show(SB.row true m (t::ts) []).er=aA.row true m (t::ts).length [] from rfl] at i;simp only[IS,zbe,if_true] at i⊢;rw[i];simp only[ai.eX,SV.er,SC.er,IS];cases h;rename_i hs d;injection h with h;subst h;cases hn:σ.env n with|one y=>(cases y<;>first|rfl|(exfalso;exact hs _ _ _ _ hn)|(exfalso;exact d _ hn))|_=>rfl
def I1 (σ:ai):Cn->Option ai
 |[]=>some σ
 |x::l=>match Df σ x with
  |some σ1=>I1 σ1 l
  |none=>none
theorem alZ:∀{a:Cn} {σ σ1:ai},I1 σ a=some σ1->σ.er.ye a.er=some σ1.er
 |[],σ,σ1,h=>by simp only[I1] at h;injection h with h;subst h;rfl
 |x::l,σ,σ1,h=>by simp only[I1] at h;split at h;rename_i σ2 e;have i:=az4 e;have j:=alZ h;simp only[Cn.er] at j;simp only[Cn.er,GB,St.ye,i,j];cases h
section
variable {ρ:Type}
def CY (n:Nat) (k:Nat->Option ρ):List Nat->Option ρ
 |[]=>k n
 |c::l=>match zab n c with
  |true=>k c
  |false=>CY n k l
theorem aiT (n:Nat) (k:Nat->Option ρ):∀l,CY n k l=k n
 |[]=>rfl
 |c::l=>by simp only[CY];split;rename_i e;rw[AI e];exact aiT n k l
def Wr (kh:List Nat) (c:SC) (k:SC->Option ρ):Option ρ:=
 match c with
 |.v t x=>k (.v t x)
 |.nil ts=>k (.nil ts)
 |.ptr n kk sz off=>CY n (fun n=>k (.ptr n kk sz off)) kh
 |.dN ts x off=>k (.dN ts x off)
 |.sl n sz lo len=>CY n (fun n=>k (.sl n sz lo len)) kh
 |.cF n a b c d e=>CY n (fun n=>k (.cF n a b c d e)) kh
 |.dU n a b c d e=>CY n (fun n=>k (.dU n a b c d e)) kh
 |.dh ts x off j n sz len=>CY n (fun n=>k (.dh ts x off j n sz len)) kh
 |.fn f dM=>k (.fn f dM)
 |.bZ=>k .bZ
theorem afd (a:List Nat) (c:SC) (k:SC->Option ρ):Wr a c k=k c:=by cases c<;>first|rfl|exact aiT _ _ _
def Ep (kh:List Nat):List SC->(List SC->Option ρ)->Option ρ
 |[],k=>k []
 |c::cs,k=>Wr kh c fun c=>Ep kh cs fun cs=>k (c::cs)
theorem K7 (a:List Nat):∀(cs:List SC) (k:List SC->Option ρ),Ep a cs k=k cs
 |[],k=>rfl
 |c::cs,k=>by simp only[Ep,afd,K7 a cs]
def xc (kh:List Nat) (env:Nat->SV):List Nat->(List (Nat×SV)->Option ρ)->Option ρ
 |[],k=>k []
 |s::ss,k=>match env s with
  |.one .bZ=>xc kh env ss k
  |.one c=>Wr kh c fun c=>xc kh env ss fun l=>k ((s,.one c)::l)
  |.agg cs=>Ep kh cs fun cs=>xc kh env ss fun l=>k ((s,.agg cs)::l)
  |.ct xs=>xc kh env ss fun l=>k ((s,.ct xs)::l)
  |.arr ts x cs=>Ep kh cs fun cs=>xc kh env ss fun l=>k ((s,.arr ts x cs)::l)
  |.oR ts x xs=>xc kh env ss fun l=>k ((s,.oR ts x xs)::l)
def yu (kh:List Nat) (h:Nat->Option SB):List Nat->(List (Nat×Option SB)->Option ρ)->Option ρ
 |[],k=>k []
 |n::ns,k=>match h n with
  |none=>yu kh h ns k
  |some (.box cs)=>Ep kh cs fun cs=>yu kh h ns fun l=>k ((n,some (.box cs))::l)
  |some (.row gr m ts xs)=>yu kh h ns fun l=>k ((n,some (.row gr m ts xs))::l)
  |some (.ef ts x cs)=>Ep kh cs fun cs=>yu kh h ns fun l=>k ((n,some (.ef ts x cs))::l)
def Er (u:Nat->Bool):List Nat->(List Nat->Option ρ)->Option ρ
 |[],k=>k []
 |n::ns,k=>match u n with
  |true=>Er u ns fun l=>k (n::l)
  |false=>Er u ns k
def Bo:List Nat->Nat->Bool
 |[],n=>zai aL n
 |m::l,n=>match zab n m with
  |true=>true
  |false=>Bo l n
def ai.Hw (ke kh:List Nat) (σ:ai) (k:ai->Option ρ):Option ρ:=
 xc kh σ.env ke fun le=>yu kh σ.h kh fun lh=>Er σ.used kh fun lu=>k ⟨qA le,nI lh,Bo lu⟩
structure lM (ke kh:List Nat) (σ:ai):Prop where
 e:∀s,s∉ke->σ.env s=.one .bZ
 h:∀n,n∉kh->σ.h n=none
 u:∀n,n∉kh->σ.used n=zai aL n
 p:∀n,σ.used n=false->zai aL n=false
theorem afe (h:List Nat) (env:Nat->SV):∀(d:List Nat) (k:List (Nat×SV)->Option ρ),∃l:List (Nat×SV),xc h env d k=k l/\∀s,qA l s=if s∈d then env s else .one .bZ
 |[],k=>⟨[],rfl,fun s=>by simp[qA]⟩
 |a::d,k=>by
  have g:∀v:SV,env a=v->(∀k':List (Nat×SV)->Option ρ,∃l,xc h env d k'=k' l/\∀s,qA l s=if s∈d then env s else .one .bZ)->
    ∃l:List (Nat×SV),xc h env d (fun l=>k ((a,v)::l))=k l/\∀s,qA l s=if s∈a::d then env s else .one .bZ:=by
   intro v b f;obtain⟨l,j,i⟩:=f fun l=>k ((a,v)::l);refine⟨(a,v)::l,j,fun s=>?_⟩;simp only[qA,mR];split
   ·rename_i e;subst e;rw[ah (by simp)];exact b.symm
   ·rename_i n;rw[i s];by_cases hs:s∈d
    ·rw[ah hs,ah (by simp[hs])]
    ·rw[ak hs,ak (by simp[hs,n])]
  have f:=fun k':List (Nat×SV)->Option ρ=>afe h env d k';simp only[xc];split
  ·rename_i b;obtain⟨l,j,i⟩:=f k;refine⟨l,j,fun s=>?_⟩;rw[i s];by_cases hs:s∈d
   ·rw[ah hs,ah (by simp[hs])]
   ·rw[ak hs];by_cases m:s=a
    ·subst m;rw[ah (by simp),b]
    ·rw[ak (by simp[hs,m])]
  ·rename_i c hc b;rw[afd];exact g _ b f
  ·rename_i cs b;rw[K7];exact g _ b f
  ·rename_i xs b;exact g _ b f
  ·rename_i ts x cs b;rw[K7];exact g _ b f
  ·rename_i ts x xs b;exact g _ b f
theorem aff (d:List Nat) (h:Nat->Option SB):∀(ns:List Nat) (k:List (Nat×Option SB)->Option ρ),∃l:List (Nat×Option SB),yu d h ns k=k l/\∀n,nI l n=if n∈ns then h n else none
 |[],k=>⟨[],rfl,fun s=>by simp[nI]⟩
 |a::ns,k=>by
  have i:∀v:Option SB,h a=v->(∀k':List (Nat×Option SB)->Option ρ,∃l,yu d h ns k'=k' l/\∀s,nI l s=if s∈ns then h s else none)->
    ∃l:List (Nat×Option SB),yu d h ns (fun l=>k ((a,v)::l))=k l/\∀s,nI l s=if s∈a::ns then h s else none:=by
   intro v b c;obtain⟨l,g,f⟩:=c fun l=>k ((a,v)::l);refine⟨(a,v)::l,g,fun s=>?_⟩;simp only[nI,mR];split
   ·rename_i e;subst e;rw[ah (by simp)];exact b.symm
   ·rename_i o;rw[f s];by_cases hs:s∈ns
    ·rw[ah hs,ah (by simp[hs])]
    ·rw[ak hs,ak (by simp[hs,o])]
  have c:=fun k':List (Nat×Option SB)->Option ρ=>aff d h ns k';simp only[yu];split
  ·rename_i b;obtain⟨l,g,f⟩:=c k;refine⟨l,g,fun s=>?_⟩;rw[f s];by_cases hs:s∈ns
   ·rw[ah hs,ah (by simp[hs])]
   ·rw[ak hs];by_cases j:s=a
    ·subst j;rw[ah (by simp),b]
    ·rw[ak (by simp[hs,j])]
  ·rename_i cs b;rw[K7];exact i _ b c
  ·rename_i gr m ts xs b;exact i _ b c
  ·rename_i ts x cs b;rw[K7];exact i _ b c
theorem Ws (u:Nat->Bool) (hp:∀n,u n=false->zai aL n=false):∀(ns:List Nat) (k:List Nat->Option ρ),∃l:List Nat,Er u ns k=k l/\∀n,Bo l n=if n∈ns then u n else zai aL n
 |[],k=>⟨[],rfl,fun s=>by simp[Bo]⟩
 |a::ns,k=>by simp only[Er];split;rename_i b;obtain⟨l,c,d⟩:=Ws u hp ns fun l=>k (a::l);refine⟨a::l,c,fun s=>?_⟩;simp only[Bo];split;rename_i e;have:=AI e;subst this;rw[ah (by simp)];exact b.symm;rename_i e;have g:=CZ e;rw[d s];by_cases hs:s∈ns;rw[ah hs,ah (by simp[hs])];rw[ak hs,ak (by simp[hs,g])];rename_i b;obtain⟨l,c,d⟩:=Ws u hp ns k;refine⟨l,c,fun s=>?_⟩;rw[d s];by_cases hs:s∈ns;rw[ah hs,ah (by simp[hs])];rw[ak hs];by_cases f:s=a;subst f;rw[ah (by simp),b,hp _ b];rw[ak (by simp[hs,f])]
theorem Pu {ke a:List Nat} {σ:ai} (W:lM ke a σ) (k:ai->Option ρ):σ.Hw ke a k=k σ:=by unfold ai.Hw;obtain⟨le,m,n⟩:=afe a σ.env ke fun le=>yu a σ.h a fun c=>Er σ.used a fun b=>k ⟨qA le,nI c,Bo b⟩;rw[m];obtain⟨c,d,l⟩:=aff a σ.h a fun c=>Er σ.used a fun b=>k ⟨qA le,nI c,Bo b⟩;rw[d];obtain⟨b,j,u2⟩:=Ws σ.used W.p a fun b=>k ⟨qA le,nI c,Bo b⟩;rw[j];have i:qA le=σ.env:=(by funext s;rw[n s];split;rfl;rename_i hs;exact(W.e s hs).symm);have f:nI c=σ.h:=(by funext s;rw[l s];split;rfl;rename_i hs;exact(W.h s hs).symm);have g:Bo b=σ.used:=(by funext s;rw[u2 s];split;rfl;rename_i hs;exact(W.u s hs).symm);rw[i,f,g]
theorem lM.lG (ke b:List Nat) (σ:ai):lM ke b (σ.lG ke b):= ⟨fun s hs=>aaQ _ _ _ s hs,fun n hn=>aaR _ _ _ n hn,fun n hn=>by show(zai aL n||xK _ _ n)=_;rw[aaS _ _ n hn,zb7], fun n hn=>by have a:(zai aL n||xK _ _ n)=false:=hn;simp only[Bool.or_eq_false_iff] at a;exact a.1⟩
theorem lM.bN {ke b:List Nat} {σ σ1:ai} {a c:Nat} (W:lM ke b σ) (d:c∈b) (h:σ.bN a c=some σ1):lM ke b σ1:=by unfold ai.bN at h;split at h;injection h with h;subst h;exact W;split at h;injection h with h;subst h;exact W;rename_i vH;split at h;cases h;rename_i f;injection h with h;subst h;refine⟨fun s hs=>?_,fun n hn=>?_,fun n hn=>?_,fun n hn=>?_⟩;show(σ.env s).bN a c=_;rw[W.e s hs];rfl;simp only;split;rename_i e;exact absurd (by rw[AI e];exact d) hn;split;rfl;rw[W.h n hn];rfl;simp only;split;rename_i e;exact absurd (by rw[AI e];exact d) hn;split;rename_i e;rw[AI e,vH];exact W.u n hn;simp only at hn;split at hn;rename_i e;rw[AI e];exact W.p c f;split at hn;rename_i e;rw[AI e,vH];exact W.p n hn
theorem lM.ins {ke d:List Nat} {σ σ1:ai} {c:Nat} {b:SB} (W:lM ke d σ) (f:c∈d) (h:σ.ins c b=some σ1):lM ke d σ1:=by unfold ai.ins at h;split at h;cases h;rename_i PV;injection h with h;subst h;refine⟨W.e,fun n hn=>?_,fun n hn=>?_,fun n hn=>?_⟩;show aV σ.h c _ n=_;rw[dJ _ _ _ _ (fun e=>hn (by rw[e];exact f))];exact W.h n hn;show aV σ.used c _ n=_;rw[dJ _ _ _ _ (fun e=>hn (by rw[e];exact f))];exact W.u n hn;have a:aV σ.used c true n=false:=hn;by_cases e:n=c;subst e;rw[cX] at a;cases a;rw[dJ _ _ _ _ e] at a;exact W.p n a
theorem lM.np {ke b:List Nat} {σ:ai} (W:lM ke b σ) (c:Nat) (m:Mode):lM ke b (σ.np c m):=by cases m with|live=>exact W|aS=>exact W|aQ=>simp only[ai.np];split;rename_i gr ts xs hn;exact⟨W.e,fun n a=>by show aV σ.h c _ n=none;have d:n≠c:=fun e=>(by subst e;rw[W.h n a] at hn;cases hn);rw[dJ _ _ _ _ d];exact W.h n a,W.u,W.p⟩;exact W
theorem lM.IW {ke b:List Nat} {σ σ1:ai} {a c:Nat} {m:Mode} (W:lM ke b σ) (d:c∈b) (h:(σ.bN a c).map (fun σ1=>σ1.np c m)=some σ1):lM ke b σ1:=by rw[zak] at h;obtain⟨σ2,e,rfl⟩:=h;exact(W.bN d e).np c m
theorem lM.canon {ke f:List Nat} {σ σ1:ai} {x:Bool×Nat×Nat×Nat×Mode×List Ty} (W:lM ke f σ) (g:x.2.2.2.1∈f) (h:Df σ x=some σ1):lM ke f σ1:=by obtain⟨b,n,j,c,m,us⟩:=x;simp only at g;have same:some σ=some σ1->lM ke f σ1:=fun h=>(by injection h with h;subst h;exact W);cases b with|true=>simp only[Df] at h;split at h;rename_i cs hn;split at h;exact W.IW g h;split at h;exact same h;split at h;rename_i σ2 e;injection h with h;subst h;have a:=W.ins g e;have i:n∈f:=(by rcases zbn (n∈f) with h|h;exact h;rw[W.h n h] at hn;cases hn);exact⟨a.e,fun q d=>by show aV σ2.h n _ q=_;rw[dJ _ _ _ _ (fun e=>d (by rw[e];exact i))];exact a.h q d,a.u,a.p⟩;cases h;exact same h;rename_i vs x cs hn;split at h;exact same h;split at h;exact W.IW g h;split at h;exact same h;split at h;rename_i σ2 e;injection h with h;subst h;have a:=W.ins g e;have i:n∈f:=(by rcases zbn (n∈f) with h|h;exact h;rw[W.h n h] at hn;cases hn);exact⟨a.e,fun q d=>by show aV σ2.h n _ q=_;rw[dJ _ _ _ _ (fun e=>d (by rw[e];exact i))];exact a.h q d,a.u,a.p⟩;cases h;exact same h;exact same h|false=>simp only[Df] at h;split at h;exact W.IW g h;rename_i ts hn;split at h;exact same h;split at h;rename_i σ2 e;injection h with h;subst h;have a:=W.ins g e;have i:n∈ke:=(by rcases zbn (n∈ke) with h|h;exact h;rw[W.e n h] at hn;cases hn);exact⟨fun q d=>by show aV σ2.env n _ q=_;rw[dJ _ _ _ _ (fun e=>d (by rw[e];exact i))];exact a.e q d,a.h,a.u,a.p⟩;cases h;exact same h
def Rt (ke kh:List Nat):Cn->ai->(ai->Option ρ)->Option ρ
 |[],σ,k=>k σ
 |x::l,σ,k=>match Df σ x with
  |some σ1=>match List.elem x.2.2.2.1 kh with
   |true=>σ1.Hw ke kh fun σ2=>Rt ke kh l σ2 k
   |false=>none
  |none=>none
theorem alY {ke b:List Nat}:∀{c:Cn} {σ:ai} {k:ai->Option ρ} {r:ρ},lM ke b σ->Rt ke b c σ k=some r->∃σ1,I1 σ c=some σ1/\k σ1=some r
 |[],σ,k,r,W,h=>⟨σ,rfl,h⟩
 |x::l,σ,k,r,W,h=>by simp only[Rt] at h;split at h;rename_i σ1 e;split at h;rename_i hm;have a:=W.canon (by simpa using hm) e;rw[Pu a] at h;obtain⟨σ2,d,f⟩:=alY a h;exact⟨σ2,by simp only[I1,e,d],f⟩;cases h;cases h
def I5 (sh:nw) (kh:List Nat) (cn:Cn) (σ:ai) (k:sh.L.D->Option ρ):Option ρ:=
 (σ.lG sh.ke kh).Hw sh.ke kh fun σ1=>(σ1.lG sh.ke kh).Hw sh.ke kh fun σ2=>Rt sh.ke kh cn σ2 fun jG=>(jG.lG sh.ke kh).Hw sh.ke kh fun σ4=>sh.flat kh σ4 k
theorem Sa {a:nw} {b:List Nat} {c:Cn} {σ:ai} {k:a.L.D->Option ρ} {r:ρ} (h:I5 a b c σ k=some r): ∃x,σ.er.head a.ke b c.er=some (a.un x).er/\k x=some r:=by unfold I5 at h;rw[Pu (lM.lG _ _ _),Pu (lM.lG _ _ _)] at h;obtain⟨σ1,e,h⟩:=alY (lM.lG _ _ _) h;rw[Pu (lM.lG _ _ _)] at h;obtain⟨x,d,f⟩:=nw.ti h (fun s hs=>aaQ _ _ _ s hs) (fun n hn=>⟨aaR _ _ _ n hn,by show(zai aL n||xK _ _ n)=_;rw[aaS _ _ n hn,zb7]⟩);have i:=alZ e;rw[ai.ZK,ai.ZK] at i;exact⟨x,by simp only[St.head,i,<-d,ai.ZK],f⟩
end
inductive bO where
 |skip
 |eH (w4:Bool) (ops:List eM)
 |qR (ps:List (Nat×Nat)) (ops:List eM)
 |seq (a b:bO)
 |cond (c:cT) (a b:bO)
 |block (id:Nat) (c:bO)
 |join (sh:nw) (kh:List Nat) (cn:Cn) (c:bO)
 |loop (id:Nat) (sh:nw) (kh:List Nat) (cn:Cn) (c:bO)
 |exit (id:Nat)
 |ret
def bO.er:bO->mn
 |.skip=>.skip
 |.eH d ops=>.eH d (ops.map eM.er)
 |.qR ps ops=>.qR ps (ops.map eM.er)
 |.seq a b=>.seq a.er b.er
 |.cond c a b=>.cond c.er a.er b.er
 |.block id c=>.block id c.er
 |.join sh kh cn c=>.join sh.ke kh cn.er c.er
 |.loop id sh kh cn c=>.loop id sh.ke kh cn.er c.er
 |.exit id=>.exit id
 |.ret=>.ret
def ai.YL (σ:ai) (c:cT) (b:Bool):ai:=
 match c with
 |.t n=>σ.lit n b
 |.k _=>σ
def CJ {X ρ:Type} (o:Option ρ):Option (X⊕ρ):=o.ab fun r=>some (.inr r)
theorem H7 {X ρ:Type} {o:Option ρ} {s:X⊕ρ} (h:CJ o=some s):∃r,o=some r/\s=.inr r:=by unfold CJ at h;rw[fI] at h;obtain⟨r,b,a⟩:=h;injection a with a;exact⟨r,b,a.symm⟩
def oP (N:Nat) (T:List ax):bO->{ρ:Type}->ai->(ai->Option ρ)->(Nat->ai->Option ρ)->(ai->Option ρ)->Option ρ
 |.skip,_,σ,k,_,_=>k σ
 |.eH _ ops,_,σ,k,_,_=>wg T ops σ k
 |.qR ps ops,_,σ,k,_,_=>wh T ps ops [] σ k
 |.seq a b,_,σ,k,ex,kr=>oP N T a σ (fun σ1=>oP N T b σ1 k ex kr) ex kr
 |.cond c a b,_,σ,k,ex,kr=>match σ.ev c with
  |.one (.v .bool t)=>aD t (oP N T a (σ.YL c true) k ex kr) (oP N T b (σ.YL c false) k ex kr)
  |_=>none
 |.block id c,_,σ,k,ex,kr=>oP N T c σ k (fun i σ1=>match zab i id with|true=>k σ1|false=>ex i σ1) kr
 |.join sh kh cn c,ρ,σ,k,ex,kr=>
  cN (oP N T c (ρ:=sh.L.D⊕ρ) σ (fun σ1=>I5 sh kh cn σ1 fun x=>some (.inl x)) (fun i σ1=>CJ (ex i σ1)) (fun σ1=>CJ (kr σ1))) fun x=>k (sh.un x)
 |.loop id sh kh cn c,ρ,σ,k,ex,kr=>
  I5 sh kh cn σ fun x0=>cL N (fun x=>oP N T c (ρ:=sh.L.D⊕ρ) (sh.un x) (fun σ1=>I5 sh kh cn σ1 fun x'=>some (.inl x')) (fun i σ1=>CJ (ex i σ1)) (fun σ1=>CJ (kr σ1))) x0
 |.exit id,_,σ,_,ex,_=>ex id σ
 |.ret,_,σ,_,_,kr=>kr σ
def abT {ρ:Type} (k:ai->Option ρ) (ex:Nat->ai->Option ρ) (kr:ai->Option ρ) (r:ρ):wN->Prop
 |.ij τ=>∃gj:ai,τ=gj.er/\k gj=some r
 |.ext i τ=>∃gj:ai,τ=gj.er/\ex i gj=some r
 |.ret τ=>∃gj:ai,τ=gj.er/\kr gj=some r
theorem agN {σ:ai} {c:cT} {b:Bool} (h:σ.ev c=.one (.v .bool b)):(σ.YL c b).er=σ.er:=by cases c with|t n=>exact ai.KQ h|k v=>rfl
theorem vb {T:List ax}:∀(m:bO) {ρ:Type} {σ:ai} {k:ai->Option ρ} {p:Nat->ai->Option ρ} {l:ai->Option ρ} {r:ρ},oP aP T m σ k p l=some r->
    ∃o:wN,fm (dB T) m.er σ.er=some o/\abT k p l r o
  |.skip,ρ,σ,k,p,l,r,h=>⟨.ij σ.er,rfl,σ,rfl,h⟩
  |.eH d ops,ρ,σ,k,p,l,r,h=>by
   obtain⟨σ1,g,f⟩:=aac (h:wg T ops σ k=some r);exact⟨.ij σ1.er,by simp only[bO.er,fm,g],σ1,rfl,f⟩
  |.qR ps ops,ρ,σ,k,p,l,r,h=>by
   obtain⟨σ1,fs,g,f,q⟩:=aab (h:wh T ps ops [] σ k=some r);exact⟨.ij σ1.er,by simp only[bO.er,fm,g,f,cond_true],σ1,rfl,q⟩
  |.seq a b,ρ,σ,k,p,l,r,h=>by
   obtain⟨o,g,f⟩:=vb a (h:oP aP T a σ (fun σ1=>oP aP T b σ1 k p l) p l=some r);cases o with
   |ij τ=>
    obtain⟨j,rfl,f⟩:=f;obtain⟨G,q,u⟩:=vb b f;exact⟨G,by simp only[bO.er,fm,g,q],u⟩
   |ext i τ=>exact⟨.ext i τ,by simp only[bO.er,fm,g],f⟩
   |ret τ=>exact⟨.ret τ,by simp only[bO.er,fm,g],f⟩
  |.cond c a b,ρ,σ,k,p,l,r,h=>by
   simp only[oP] at h;split at h
   · rename_i t A;have C:σ.er.ev c.er=.one (.c (.bool t)):=by rw[ai.fo,A];rfl
     cases ht:(t:Bool) with
     |true=>
      rw[ht] at h;simp only[Hc] at h;obtain⟨o,g,f⟩:=vb a h;rw[agN (by rw[A,ht])] at g;exact⟨o,by simp only[bO.er,fm,C,ht,if_true,g],f⟩
     |false=>
      rw[ht] at h;simp only[Ha] at h;obtain⟨o,g,f⟩:=vb b h;rw[agN (by rw[A,ht])] at g;exact⟨o,by simp only[bO.er,fm,C,ht,zaH,if_false,g],f⟩
   · cases h
  |.block id c,ρ,σ,k,p,l,r,h=>by
   obtain⟨o,g,f⟩:=vb c (h:oP aP T c σ k (fun i σ1=>match zab i id with|true=>k σ1|false=>p i σ1) l=some r)
   cases o with
   |ij τ=>exact⟨.ij τ,by simp only[bO.er,fm,g],f⟩
   |ret τ=>exact⟨.ret τ,by simp only[bO.er,fm,g],f⟩
   |ext i τ=>
    obtain⟨j,rfl,f⟩:=f;simp only at f;split at f
    · rename_i e;exact⟨.ij j.er,by simp only[bO.er,fm,g,ah (AI e)],j,rfl,f⟩
    · rename_i e;exact⟨.ext i j.er,by simp only[bO.er,fm,g,ak (CZ e)],j,rfl,f⟩
  |.join sh kh cn c,ρ,σ,k,p,l,r,h=>by
   simp only[oP,cN,zba] at h;obtain⟨s,hs,h⟩:=h;obtain⟨o,g,f⟩:=vb c hs;cases o with
   |ij τ=>
    obtain⟨j,rfl,f⟩:=f;obtain⟨x,q,u⟩:=Sa f;injection u with u;subst u;exact⟨.ij (sh.un x).er,by simp only[bO.er,fm,g,q],sh.un x,rfl,h⟩
   |ext i τ=>
    obtain⟨j,rfl,f⟩:=f;obtain⟨y,q,rfl⟩:=H7 f;injection h with h;subst h;exact⟨.ext i j.er,by simp only[bO.er,fm,g],j,rfl,q⟩
   |ret τ=>
    obtain⟨j,rfl,f⟩:=f;obtain⟨y,q,rfl⟩:=H7 f;injection h with h;subst h;exact⟨.ret j.er,by simp only[bO.er,fm,g],j,rfl,q⟩
  |.loop id sh kh cn c,ρ,σ,k,p,l,r,h=>by
   simp only[oP] at h;obtain⟨v,z,h⟩:=Sa h;simp only[bO.er,fm];have F:∀(n:Nat) (v:sh.L.D) (w:St),w.head sh.ke kh cn.er=some (sh.un v).er->
       cL n (fun x=>oP aP T c (ρ:=sh.L.D⊕ρ) (sh.un x) (fun σ1=>I5 sh kh cn σ1 fun x'=>some (.inl x')) (fun i σ1=>CJ (p i σ1)) (fun σ1=>CJ (l σ1))) v=some r->
       ∃o:wN,Iq n (fun σ=>match σ.head sh.ke kh cn.er with|some σ1=>fm (dB T) c.er σ1|none=>none) w=some o/\abT k p l r o:=by
    intro n;induction n with
    |zero=>intro v w z h;simp[cL] at h
    |succ n E=>
     intro v w z h;simp only[cL] at h;simp only[Iq,z];split at h
     · rename_i x' hb;obtain⟨o,g,f⟩:=vb c hb;cases o with
       |ij τ=>
        obtain⟨j,rfl,f⟩:=f;obtain⟨B,q,u⟩:=Sa f;injection u with u;injection u with u;subst u;simp only[g];exact E B _ q h
       |ext i τ=>
        obtain⟨j,rfl,f⟩:=f;obtain⟨y,_,e⟩:=H7 f;cases e
       |ret τ=>
        obtain⟨j,rfl,f⟩:=f;obtain⟨y,_,e⟩:=H7 f;cases e
     · rename_i y hb;injection h with h;subst h;obtain⟨o,g,f⟩:=vb c hb;cases o with
       |ij τ=>
        obtain⟨j,rfl,f⟩:=f;obtain⟨B,q,u⟩:=Sa f;injection u with u;cases u
       |ext i τ=>
        obtain⟨j,rfl,f⟩:=f;obtain⟨y',q,e⟩:=H7 f;injection e with e;subst e;exact⟨.ext i j.er,by simp only[g],j,rfl,q⟩
       |ret τ=>
        obtain⟨j,rfl,f⟩:=f;obtain⟨y',q,e⟩:=H7 f;injection e with e;subst e;exact⟨.ret j.er,by simp only[g],j,rfl,q⟩
     · cases h
   exact F aP v σ.er z h
  |.exit id,ρ,σ,k,p,l,r,h=>⟨.ext id σ.er,rfl,σ,rfl,h⟩
  |.ret,ρ,σ,k,p,l,r,h=>⟨.ret σ.er,rfl,σ,rfl,h⟩
def u6:mn->Bool
 |.skip|.ret|.exit _=>true
 |.eH _ ops|.qR _ ops=>ops.all fun o=>zai o.op.fW 1
 |.seq a b=>u6 a&&u6 b
 |.cond _ a b=>u6 a&&u6 b
 |.block _ c=>u6 c
 |_=>false
structure g7 (σ σ':St):Prop where
 h:∀n,σ.used n=true->σ'.h n=σ.h n
 u:∀n,σ.used n=true->σ'.used n=true
theorem g7.refl (σ:St):g7 σ σ:=⟨fun _ _=>rfl,fun _ h=>h⟩
theorem g7.trans {σ σ1 σ2:St} (a:g7 σ σ1) (b:g7 σ1 σ2):g7 σ σ2:=⟨fun n hn=>(b.h n (a.u n hn)).trans (a.h n hn),fun n hn=>b.u n (a.u n hn)⟩
theorem g7.put (σ:St) (d:Option Nat) (v:au):g7 σ (σ.put d v):=by cases d<;>exact⟨fun _ _=>rfl,fun _ h=>h⟩
theorem g7.ew:∀{l:List (Nat×aA)} {σ σ':St},σ.ew l=some σ'->g7 σ σ'
 |[],σ,σ',h=>by simp only[St.ew] at h;injection h with h;subst h;exact g7.refl _
 |(n,b)::l,σ,σ',h=>by simp only[St.ew] at h;split at h;rename_i σ1 e;obtain⟨a,rfl⟩:=rD e;refine g7.trans ⟨fun m hm=>?_,fun m hm=>?_⟩ (g7.ew h);show aV σ.h n (some b) m=_;rw[dJ _ _ _ _ (fun e=>by subst e;rw[a] at hm;cases hm)];show aV σ.used n true m=true;rw[mR];split;rfl;exact hm;cases h
theorem g7.exec {T:bj} {d:Option Nat} {op:bo} {σ σ':St} (b:zai op.fW 1=true) (h:exec T d op σ=some σ'):g7 σ σ':=by rw[uz T d op σ (zaB b)] at h;cases hr:rd T d op σ.ev σ.h with|none=>rw[hr] at h;cases h|some x=>rw[hr] at h;simp only[Option.bind_some,iP] at h;rw[zak] at h;obtain⟨σ1,a,rfl⟩:=h;exact(g7.ew a).trans (g7.put _ _ _)
theorem g7.gQ {T:bj} {o:cZ} {σ σ':St} (a:zai o.op.fW 1=true) (h:gQ T o σ=some σ'):g7 σ σ':=by unfold Am.gQ at h;split at h;exact g7.exec a h;split at h;split at h;exact g7.exec a h;injection h with h;subst h;exact g7.put _ _ _;injection h with h;subst h;exact g7.put _ _ _;cases h
theorem g7.oz {T:bj}:∀{os:List cZ} {σ σ':St},os.all (fun o=>zai o.op.fW 1)=true->oz T os σ=some σ'->g7 σ σ'
 |[],σ,σ',_,h=>by simp only[Am.oz] at h;injection h with h;subst h;exact g7.refl _
 |o::os,σ,σ',hc,h=>by simp only[zaW,so] at hc;simp only[Am.oz] at h;split at h;rename_i σ1 e;exact(g7.gQ hc.1 e).trans (g7.oz hc.2 h);cases h
theorem g7.qD {T:bj}:∀{os:List cZ} {a b:List (Option FP)} {σ σ':St},os.all (fun o=>zai o.op.fW 1)=true->qD T os a σ=some (b,σ')->g7 σ σ'
 |[],a,b,σ,σ',_,h=>by simp only[Am.qD] at h;injection h with h;injection h with _ h;subst h;exact g7.refl _
 |o::os,a,b,σ,σ',hc,h=>by simp only[zaW,so] at hc;simp only[Am.qD] at h;split at h;rename_i σ1 e;exact(g7.gQ hc.1 e).trans (g7.qD hc.2 h);cases h
def wN.st:wN->St
 |.ij σ=>σ
 |.ext _ σ=>σ
 |.ret σ=>σ
theorem FF {T:bj}:∀(j:mn) {σ:St} {o:wN},u6 j=true->fm T j σ=some o->g7 σ o.st
 |.skip,σ,o,_,h=>by simp only[fm] at h;injection h with h;subst h;exact g7.refl _
 |.ret,σ,o,_,h=>by simp only[fm] at h;injection h with h;subst h;exact g7.refl _
 |.exit i,σ,o,_,h=>by simp only[fm] at h;injection h with h;subst h;exact g7.refl _
 |.eH d ops,σ,o,hc,h=>by simp only[fm] at h;split at h;rename_i σ1 e;injection h with h;subst h;exact g7.oz hc e;cases h
 |.qR ps ops,σ,o,hc,h=>by simp only[fm] at h;split at h;rename_i k σ1 e;(cases hp:AR ps k with|true=>rw[hp] at h;injection h with h;subst h;exact g7.qD hc e|false=>rw[hp] at h;cases h);cases h
 |.seq a b,σ,o,hc,h=>by simp only[u6,so] at hc;simp only[fm] at h;cases e:fm T a σ with|none=>rw[e] at h;cases h|some g=>have f:=FF a hc.1 e;rw[e] at h;cases g with|ij σ1=>exact f.trans (FF b hc.2 h)|ext i σ1=>injection h with h;subst h;exact f|ret σ1=>injection h with h;subst h;exact f
 |.cond c a b,σ,o,hc,h=>by simp only[u6,so] at hc;simp only[fm] at h;split at h;split at h;exact FF a hc.1 h;exact FF b hc.2 h;cases h
 |.block id c,σ,o,hc,h=>by simp only[u6] at hc;simp only[fm] at h;cases e:fm T c σ with|none=>rw[e] at h;cases h|some g=>have f:=FF c hc e;rw[e] at h;cases g with|ij σ1=>injection h with h;subst h;exact f|ret σ1=>injection h with h;subst h;exact f|ext i σ1=>simp only at h;split at h<;>(injection h with h;subst h;exact f)
 |.join ..,_,_,hc,_=>by simp[u6] at hc
 |.loop ..,_,_,hc,_=>by simp[u6] at hc
def St.IY (σ:St) (ms:List bI):Option (Nat×Nat):=
 match σ.tQ ms with
 |some [.one (.sl n sz lo len)]=>if n=aL then match σ.h aL with
  |some (.row _ _ rs (_::_))=>if sz=rs then some (lo,len) else none
  |_=>none
  else none
 |_=>none
def Rn (T:bj) (mc:mn) (aC:List bI) (sig:cR) (ds:List Dv):Option (Nat×Nat):=
 match e7 sig (ds.map (·.2)) with
 |[_]=>match fm T mc (rC sig ds) with
  |some (.ij σ)=>σ.IY aC
  |some (.ret σ)=>σ.IY aC
  |_=>none
 |_=>none
section
variable {B N:Nat} {E:Ex} {w0 w w':World} {G G':Gh} {h h':Nat->Option aA} {used:Nat->Bool} {P:Program} {T:bj} {a:Act} {σ σ':St} {Q:Exit->Act->World->Prop}
theorem ata (sig:cR) (ds:List Dv):(rC sig ds).h aL=((e7 sig (ds.map (·.2)))[aL - aL]?).bind oO:=by have a:∀n,aL<=n->(rC sig ds).h n=((e7 sig (ds.map (·.2)))[n - aL]?).bind oO:=fun n hn=>ah hn;exact a aL (Pd aL)
theorem atb (sig:cR) (ds:List Dv):(rC sig ds).used aL=true:=by have a:∀n,aL<=n->(rC sig ds).used n=true:=fun n hn=>zaf hn;exact a aL (Pd aL)
theorem ap4 (x:Mode×PC):(vq [x]).nZ aL=some (rL x.2):=by
 have a:∀n,aL<=n->n - aL=0->(vq [x]).nZ n=some (rL x.2):=fun n hn b=>by
  show(if aL<=n then([x][n - aL]?).map _ else none)=_
  rw[ah hn,b];rfl
 exact a aL (Pd aL) (zas aL)
theorem aBE (Z:q8 P T) (hm:P.follows .mixedOrders=true) {f:FuncId} {fn:Func} {c:Code} {s:mn} {ms:List bI} {sig:cR} {M:List Dv->Option (Nat×Nat)} (hf:P.funcs[f]? =some fn) (hb:fn.body=some c)
  (Y:lO P fn.ntmps c s=true) (hr:qv P fn.results.toList ms=true) (PQ:u6 s=true) (hM:∀ds lo len,M ds=some (lo,len)->ds.length<=fn.ntmps/\Rn T s ms sig ds=some (lo,len)):GF P f sig M:=by
 intro ds lo len nG w vals pas ha;obtain⟨hN,j⟩:=hM ds lo len nG;refine calls_of_wp hf hb ?_;have L:=R.L6 (N:=fn.ntmps) ha hN;have ir:∀p∈pas,∀pc∈p.ps,Good w pc:=by
  intro p hp pc ci;obtain⟨i,hi,rfl⟩:=zbz hp;have hd:ds[i]? =some (ds[i]'(by rw[<-ha.l2];exact hi)):=co _;have D:vals[i]? =some (vals[i]'(by rw[ha.l1,<-ha.l2];exact hi)):=co _;exact(ha.at_ i _ _ _ hd D (co hi)).2.1 pc ci
 have I:∀x∈e7 sig (pas.map (·.ps)),Good w x.2:=by
  intro x hx;obtain⟨l,hl,rz⟩:=KT hx;obtain⟨p,hp,rfl⟩:=zbO.1 hl;exact ir p hp _ rz
 have Lm:ds.map (·.2)=(pas.map (·.ps)).map fun l=>l.map PC.er:=by
  apply zag;intro i;simp only[zad];cases hd:ds[i]? with
  |none=>
   have:ds.length<=i:=za3.1 hd;rw[BY (by rw[ha.l2];exact this)];rfl
  |some d=>
   have hi:=(If.1 hd).1;have D:vals[i]? =some (vals[i]'(by rw[ha.l1];exact hi)):=co _;have hp:pas[i]? =some (pas[i]'(by rw[ha.l2];exact hi)):=co _;have:=(ha.at_ i d _ _ hd D hp).1;rw[hp];simp only[AN];rw[this]
 have H:(rC sig ds).h aL=((e7 sig (ds.map (·.2)))[aL - aL]?).bind oO:=ata sig ds;have C:(rC sig ds).used aL=true:=atb sig ds;unfold Rn at j;rw[Lm,Hq] at j H;generalize pg:e7 sig (pas.map (·.ps))=fl at j L I H;have O:=ha.ok;rw[pg] at O;split at j
 case h_2=>cases j
 rename_i y hy;obtain⟨x,rfl⟩:∃x,fl=[x]:=by
  match fl,hy with
  |[x],_=>exact⟨x,rfl⟩
 obtain⟨m,pc⟩:=x;obtain⟨sz,Q,cap,px,B,gk,rr,vE⟩:=(O (m,pc) (by simp)).f6;dsimp only at B vE;subst B;have Cj:(rC sig ds).h aL=some (.row false m sz (px.map fun e=>e.map PC.er)):=by
  rw[H,zas];simp[oO,PC.fK]
 have iP:∀{σ:St} {a:Act} {w':World} {G:Gh},σ.h aL=(rC sig ds).h aL->σ.IY ms=some (lo,len)->R w.heap.size (vq [(m,.list sz Q cap px)]) w fn.ntmps σ a w' G->a.defers=[]/\∃v,(results fn a.tmps).run P w'=.ok v w'/\
   ∃(V:Mode) (u t:Nat) (z:Option Addr) (xs:List (List PC)) (v':Value),[(m,PC.list sz Q cap px)]=[(V,.list u z t xs)]/\(Ending.returned v)=.returned v'/\xs≠[]/\
   (∃(b o:Nat) (F:Option Addr),z=some (ad b o)/\v'=.slice F len (t - lo)/\lo+len<=t/\((lo<t\/lo=0)->F=some (ad b (o+lo*u))))/\
   Fr w.heap.size (B6 [(V,.list u z t xs)]) w w'/\∃q:PC,q.er=(PC.list u z t xs).er/\ua w' V (.list u z t xs) q:=by
  intro σ a w' G k hx r;rw[Cj] at k;unfold St.IY at hx;split at hx
  ·rename_i n A QC Mt e1;split at hx
   ·rename_i hn;subst hn;rw[k] at hx;split at hx
    ·rename_i gr m0 xN e0 es0 X;split at hx
     case isFalse=>cases hx
     rename_i J;injection hx with hx;injection hx with nU fD;subst nU fD;injection X with X;injection X with _ _ xo jM;have W:px≠[]:=by rintro rfl;cases jM
     have jK:=I (m,.list sz Q cap px) (by simp);rcases jK.cases with E|⟨_,lV,b,o,rfl⟩
     ·exact absurd E W
     have e2:zm σ 0 ([(m,PC.list sz (some (ad b o)) cap px)].map fun x=>(x.1,x.2.er))=some [.list sz (px.map fun e=>e.map PC.er)]:=by
      simp only[GB,zaG,zm,Fu,PC.fK,zbo,k];rw[ah ⟨trivial,trivial,trivial,vE,trivial⟩]
     obtain⟨us,u1,u2,_,u3⟩:=Nf r hr e1;obtain⟨v,rfl⟩:∃v,us=[v]:=by
      match us,u2 with
      |[v],_=>exact⟨v,rfl⟩
     have D:=(u3 0 _ v rfl rfl).jp (by simp);have jN:kY (G.g aL) A QC Mt v:=D.1 (by rw[k];simp);have S:A=sz:=J.trans xo.symm;have vH:=ap4 (m,PC.list sz (some (ad b o)) cap px);obtain⟨p1,U,K,p4,p6,_⟩:=r.nZ _ _ _ vH k;rw[zo W] at p1 U K p4;dsimp only at p1 U K p4;obtain⟨q,oq,k1,k2,k3,_⟩:=Kg O I r e2 (i:=0) rfl;refine⟨r.defers,_,Rq fn a.tmps u1,m,sz,cap,some (ad b o),px,v,rfl,rfl,W,?_,⟨r.fr.os,r.fr.tape,r.fr.output,r.fr.size,r.fr.block,r.fr.mh⟩,q,?_,k3⟩
     ·rcases jN with⟨E,_⟩|⟨_,F,h1,h2,h3⟩
      ·rw[p1] at E;cases E
      ·rw[U,K,p4] at*
       subst S;exact⟨b,o,F,rfl,h1,h2,h3⟩
     ·rw[k2];simp only[List.getElem?_cons_zero,zcl] at k1;rw[<-k1,PC.fK]
    ·cases hx
   ·cases hx
  ·cases hx
 split at j
 ·rename_i σ e;have k:=(FF s PQ e).h aL C;exact nB Z hm s Y e L fun a w' G r=>iP k j r
 ·rename_i σ e;have k:=(FF s PQ e).h aL C;exact nB Z hm s Y e L fun a w' G r=>iP k j r
 ·cases j
end
def St.win (σ:St) (i lo len:Nat):St:=σ.put (some i) (.one (.sl aL 1 lo len))
def Rp (T:bj) (mc:mn) (aC:List bI) (i lo len:Nat) (ds:List Dv):Option (List Dv×List C):=
 match fm T mc ((rC (oe i) ds).win i lo len) with
 |some (.ij σ)=>σ.zq aC (e7 (oe i) (ds.map (·.2)))
 |some (.ret σ)=>σ.zq aC (e7 (oe i) (ds.map (·.2)))
 |_=>none
theorem ad6 {α:Type}:∀{i:Nat} {xss:List (List α)} {x:α},xss[i]? =some [x]->e7 (oe i) xss=[(.aS,x)]
 |0,[],_,h=>by cases h
 |0,xs::xss,x,h=>by injection h with h;subst h;show gB [some .aS] [x]++e7 [] xss=_;rfl
 |i+1,[],_,h=>by cases h
 |i+1,xs::xss,x,h=>by show gB [] xs++e7 (oe i) xss=_;rw[ad6 (i:=i) (xss:=xss) (x:=x) h];rfl
section
variable {B N:Nat} {E:Ex} {w0 w w':World} {G G':Gh} {h h':Nat->Option aA} {used:Nat->Bool} {P:Program} {T:bj} {a:Act} {σ σ':St} {Q:Exit->Act->World->Prop}
theorem an0 {vals:List Value} {v:Value} {i N:Nat} (hi:i<vals.length): ({tmps:=(vals.set i v).toArray++zbU (N - (vals.set i v).toArray.size) undef,defers:=[]}:Act)=({tmps:=vals.toArray++zbU (N - vals.toArray.size) undef,defers:=[]}:Act).put (some i) v:=by simp only[Act.put];congr 1;apply Array.ext';simp[List.set_append,hi]
theorem aBP (hT:q8 P T) (hm:P.follows .mixedOrders=true) {f:FuncId} {fn:Func} {c:Code} {O:mn} {ms:List bI} {i:Nat} {M:List Dv->Option (List Dv×List C)} (hf:P.funcs[f]? =some fn) (hb:fn.body=some c)
  (hc:lO P fn.ntmps c O=true) (hr:qv P fn.results.toList ms=true)
  (hM:∀lo len ds B u,M (dI lo::dI (lo+len)::ds)=some (B,u)->ds.length<=fn.ntmps/\Rp T O ms i lo len ds=some (B,u)):DU P f i M:=by
 intro lo len ds B u ys nG E w vals pas ha b0 o0 Oy n0 a' XK cC io WC;obtain⟨hN,s⟩:=hM lo len ds B u nG;refine calls_of_wp hf hb ?_;have Y:i<ds.length:=(If.1 E).1;have HQ:i<vals.length:=by rw[ha.l1];exact Y
 have ir:∀p∈pas,∀pc∈p.ps,Good w pc:=by
  intro p hp pc ci;obtain⟨i,hi,rfl⟩:=zbz hp;have hd:ds[i]? =some (ds[i]'(by rw[<-ha.l2];exact hi)):=co _;have hv:vals[i]? =some (vals[i]'(by rw[ha.l1,<-ha.l2];exact hi)):=co _;exact(ha.at_ i _ _ _ hd hv (co hi)).2.1 pc ci
 have W:pas[i]? =some (pas[i]'(by rw[ha.l2];exact Y)):=co _;obtain⟨D,t,j⟩:=ha.at_ i _ _ _ E XK W;generalize pas[i]'(by rw[ha.l2];exact Y)=p at W D t j;obtain⟨pk,H,pb,po⟩:=p;injection D with J I;simp only at J I t j;subst J;simp only at j;obtain⟨pc,rfl⟩:∃pc,H=[pc]:=by
  have hl:=congrArg zbb j;rw[By] at hl;match H,hl with
  |[pc],_=>exact⟨pc,rfl⟩
 injection j with j _;injection I with I _;obtain⟨tV,GL,A,y,rfl⟩:∃tV GL A y,pc=.list tV GL A y:=by
  cases pc with
  |int k n=>cases j
  |bool b=>cases j
  |list sz a cap xs=>exact⟨_,_,_,_,rfl⟩
 rw[PC.fK] at I;injection I with z1 z2;subst z1;rw[PC.val] at j;injection j with z3 z4 z5;subst z3 z4 z5;have jK:=t _ (zbI.2 rfl);have aJ:y≠[]:=by rintro rfl;simp at cC
 have HO:e7 (oe i) (pas.map (·.ps))=[(.aS,PC.list 1 (some (ad b0 o0)) A y)]:=ad6 (by rw[zad,W];rfl);have lV:y.length<=A:=by
  rcases jK.cases with h0|⟨_,h1,_⟩
  ·exact absurd h0 aJ
  ·exact h1
 have r1:=R.L6 (N:=fn.ntmps) ha hN;have Q:=r1.put (d:=some i) (x:=.one (.sl aL 1 lo len)) (v:=.slice a' len (A - lo)) (RA.je rfl (by
   intro _;have F:(pR w (e7 (oe i) (pas.map (·.ps)))).g aL=⟨false,b0,o0,A,y,none⟩:=by
    rw[HO];simp only[pR,zas];exact zo aJ
   show kY _ 1 lo len _;rw[F];exact .inr ⟨rfl,a',rfl,by simp only;omega,WC⟩)) (fun m hm=>zaf (zbm (show aL=m from(show m=aL from hm).symm))) (fun n hn=>by
   injection hn with hn;subst hn;omega)
 rw[<-an0 HQ] at Q;have F:∀x∈e7 (oe i) (pas.map (·.ps)),Good w x.2:=by
  intro x hx;obtain⟨l,hl,rz⟩:=KT hx;obtain⟨p,hp,rfl⟩:=zbO.1 hl;exact ir p hp _ rz
 have Lm:ds.map (·.2)=(pas.map (·.ps)).map fun l=>l.map PC.er:=by
  apply zag;intro i;simp only[zad];cases hd:ds[i]? with
  |none=>
   have:ds.length<=i:=za3.1 hd;rw[BY (by rw[ha.l2];exact this)];rfl
  |some d=>
   have hi:=(If.1 hd).1;have hv:vals[i]? =some (vals[i]'(by rw[ha.l1];exact hi)):=co _;have hp:pas[i]? =some (pas[i]'(by rw[ha.l2];exact hi)):=co _;have:=(ha.at_ i d _ _ hd hv hp).1;rw[hp];simp only[AN];rw[this]
 unfold Rp at s;rw[Lm,Hq] at s;unfold N7;generalize pg:e7 (oe i) (pas.map (·.ps))=fl at s Q F;have U:=ha.ok;rw[pg] at U;have iP:∀{σ:St} {a:Act} {w':World} {G:Gh},σ.zq ms (fl.map fun x=>(x.1,x.2.er))=some (B,u)->R w.heap.size (vq fl) w fn.ntmps σ a w' G->a.defers=[]/\∃v,(results fn a.tmps).run P w'=.ok v w'/\
   ∃z:List (K×List PC),z.map (fun p=>(p.1,p.2.map PC.er))=B/\(Ending.returned v)=.returned (zr z)/\(∀p∈z,p.1≠ .ptr/\(p.1=.one->p.2.length=1))/\
   BO w' w.heap.size (z.flatMap (·.2))/\Fr w.heap.size (B6 fl) w w'/\
   ∃Z:List PC,Z.map PC.er=u/\Z.length=fl.length/\∀(i:Nat) (x:Mode×PC) (q:PC),fl[i]? =some x->Z[i]? =some q->ua w' x.1 x.2 q:=by
  intro σ a w' G hx r;unfold St.zq at hx;split at hx
  ·rename_i u7 Zi e1 V;injection hx with hx;injection hx with nU fD;subst nU fD;have hE:∀b,(vq fl) b->∃n S m sz xs,aL<=n/\σ.h n=some (.row S m sz xs)/\m≠ .aQ/\rj G n b/\(m=.aS->¬bF b (G.g n).px):=by
    rintro b ⟨x,Aq,yN⟩;obtain⟨i,hi⟩:=List.getElem?_of_mem Aq;obtain⟨q,o,_,_,_,S,sz,xs,D,t,j,k4⟩:=Kg U F r V hi;exact⟨aL+i,S,x.1,sz,xs,Nat.le_add_right _ _,D,k4,t b yN,fun hm=>j hm b⟩
   obtain⟨z,p1,p2,p3,p4⟩:=ZL (r.nh hE) hr e1;obtain⟨ol,_⟩:=Q1 V;have X:∀i:Fin fl.length,∃q,Zi[i.1]? =some (PC.er q)/\ua w' (fl[i.1]).1 (fl[i.1]).2 q:=by
    intro i;obtain⟨q,o,D,t,j,_⟩:=Kg U F r V (co i.2);exact⟨q,by rw[D,t],j⟩
   refine⟨r.defers,_,p2,z,p1,rfl,p3,p4,⟨r.fr.os,r.fr.tape,r.fr.output,r.fr.size,r.fr.block,r.fr.mh⟩,List.ofFn fun i=>Classical.choose (X i),?_,by simp,fun i x q hi L=>?_⟩
   ·apply zag;intro i;simp only[zad];by_cases hi:i<fl.length
    ·rw[zbJ,dif_pos hi];exact(zbp (X ⟨i,hi⟩)).1.symm
    ·rw[BY (by simp;omega),BY (by rw[ol];simp;omega)];rfl
   ·obtain⟨hl,e⟩:=If.1 hi;rw[zbJ,dif_pos hl] at L;injection L with L;subst L;subst e;exact(zbp (X ⟨i,hl⟩)).2
  ·cases hx
 split at s
 ·rename_i σ e;exact nB hT hm O hc e Q fun a w' G r=>iP s r
 ·rename_i σ e;exact nB hT hm O hc e Q fun a w' G r=>iP s r
 ·cases s
end
def Nk (k:K) (ts:List Ty) (x:Ty.DL ts):SV:=
 match k with
 |.one=>match Ty.cells ts x with
  |[c]=>.one c
  |_=>.one .bZ
 |.agg=>match zai 50 ts.length with
  |true=>.arr ts x []
  |false=>.agg (Ty.cells ts x)
 |.ptr=>.one (.dN ts x 0)
theorem akw (k:K) (ts:List Ty) (x:Ty.DL ts):(Nk k ts x).er=BT (k,Ty.aE ts x):=by
 cases k with
 |one=>
  match ts,x with
  |[],x=>rfl
  |[t],x=>rfl
  |t::u::[],x=>rfl
  |t::u::v::ts,x=>rfl
 |agg=>
  simp only[Nk];split
  ·simp only[SV.er,zaG,zbV,BT]
  ·simp only[SV.er,BT,Ty.nz]
 |ptr=>rfl
def Ns:Nat->(as:aF)->aX as.aW->(Nat->SV)
 |_,[],_=>fun _=>.one .bZ
 |k,[a],x=>aV (fun _=>.one .bZ) k (Nk a.1 a.2 x)
 |k,a::b::as,x=>aV (Ns (k+1) (b::as) x.2) k (Nk a.1 a.2 x.1)
theorem ame:∀(k:Nat) (as:aF) (x:aX as.aW),vp (Ns k as x)=yS k (dG as x)
 |k,[],x=>rfl
 |k,[a],x=>by have e:(Nk a.1 a.2 x).er=BT (a.1,Ty.aE a.2 x):=akw a.1 a.2 x;simp only[Ns,dG,yS,B5];rw[e];rfl
 |k,a::b::as,x=>by have c:=ame (k+1) (b::as) x.2;simp only[Ns,dG,B5,akw,c];rw[yS]
def aar (as:aF) (x:aX as.aW):ai:={env:=Ns 0 as x,h:=fun _=>none,used:=fun n=>zai aL n}
theorem aAq (as:aF) (x:aX as.aW):(aar as x).er=L7 (dG as x):=by simp only[aar,ai.er,L7,ame];rfl
section
variable {ρ:Type}
def zw (σ:ai):List bI->(List SV->Option ρ)->Option ρ
 |[],k=>k []
 |.tmp t::ms,k=>zw σ ms fun vs=>k (σ.env t::vs)
 |.cell t sz ag::ms,k=>match σ.env t with
  |.one p=>Se σ.h p sz fun cs=>zw σ ms fun vs=>k (Jr ag cs::vs)
  |_=>none
theorem FX {σ:ai}:∀{ms:List bI} {k:List SV->Option ρ} {r:ρ},zw σ ms k=some r->∃vs,σ.er.tQ ms=some (vs.map SV.er)/\k vs=some r
 |[],k,r,h=>⟨[],rfl,h⟩
 |.tmp t::ms,k,r,h=>by simp only[zw] at h;obtain⟨vs,a,b⟩:=FX h;exact⟨_,by simp only[St.tQ,a];rfl,b⟩
 |.cell t sz ag::ms,k,r,h=>by simp only[zw] at h;split at h;rename_i p hp;obtain⟨cs,a,b⟩:=amo h;obtain⟨vs,d,f⟩:=FX b;have c:σ.er.env t=.one p.er:=(by show(σ.env t).er=_;rw[hp];rfl);have e:loadAt σ.er.h p.er sz=some (cs.map SC.er):=a;exact⟨_,by simp only[St.tQ,c,e,d,GB,NM],f⟩;cases h
def aaT (h:Nat->Option SB) (c:SC) (k:(t:Ty)->t.D->List Nat->Option ρ):Option ρ:=
 match c with
 |.v t x=>fj t.gx (k t x [])
 |.nil ts=>match ts with
  |[]=>none
  |t::us=>k (.list (t::us)) ([]:List (Ty.DL (t::us))) []
 |.sl n sz lo len=>match h n with
  |some (.row true m ts xs)=>dr ts.length sz (fj m.own (dr lo 0 ((cB xs len).ab fun ys=>k (.list ts) ys [n])))
  |_=>none
 |_=>none
theorem aAK {h:Nat->Option SB} {c:SC} {k:(t:Ty)->t.D->List Nat->Option ρ} {r:ρ} (hx:aaT h c k=some r): ∃(t:Ty) (x:t.D) (ns:List Nat),oN (dT h) c.er=some (t.er x,ns)/\k t x ns=some r:=by unfold aaT at hx;split at hx;rename_i t x;have f:=(cv hx).1;replace hx:=(cv hx).2;exact⟨t,x,[],by simp only[SC.er,oN,Ty.De,f,if_true],hx⟩;split at hx;cases hx;rename_i t us;exact⟨.list (t::us),[],[],by simp[SC.er,oN,Ty.er],hx⟩;rename_i n sz lo len;split at hx;rename_i m ts xs hn;have a:=(br hx).1;replace hx:=(br hx).2;subst a;have hm:=(cv hx).1;replace hx:=(cv hx).2;have a:=(br hx).1;replace hx:=(br hx).2;subst a;rw[fI] at hx;obtain⟨ys,b,hx⟩:=hx;obtain⟨d,g⟩:=am2 b;refine⟨.list ts,ys,[n],?_,hx⟩;have e:m≠ .aQ:=(by rintro rfl;cases hm);simp only[SC.er,oN,dT,hn,AN,SB.er,By,d,g,ne_eq,e,not_false_eq_true,and_self,if_true,Ty.er];cases hx;cases hx
def Ss (h:Nat->Option SB):List SC->(List TD->List Nat->Option ρ)->Option ρ
 |[],k=>k [] []
 |c::cs,k=>aaT h c fun t x ns=>Ss h cs fun l oK=>k (⟨t,x⟩::l) (ns++oK)
theorem amN {h:Nat->Option SB}:∀{cs:List SC} {k:List TD->List Nat->Option ρ} {r:ρ},Ss h cs k=some r-> ∃l ns,v9 (dT h) (cs.map SC.er)=some (du l,ns)/\k l ns=some r
 |[],k,r,hx=>⟨[],[],rfl,hx⟩
 |c::cs,k,r,hx=>by simp only[Ss] at hx;obtain⟨t,x,ns,a,f⟩:=aAK hx;obtain⟨l,b,d,e⟩:=amN f;exact⟨⟨t,x⟩::l,ns++b,by simp[v9,a,d,du],e⟩
def kOf:Bool->K
 |true=>.agg
 |false=>.one
def Jf (h:Nat->Option SB):List SV->(List cD->List Nat->Option ρ)->Option ρ
 |[],k=>k [] []
 |v::vs,k=>match v.cells? with
  |some (ag,cs)=>Ss h cs fun l ns=>Jf h vs fun ds oK=>k ((kOf ag,l)::ds) (ns++oK)
  |none=>none
theorem Sq {h:Nat->Option SB}:∀{vs:List SV} {k:List cD->List Nat->Option ρ} {r:ρ},Jf h vs k=some r-> ∃ds ns,sO (dT h) (vs.map SV.er)=some (ds.map cD.er,ns)/\k ds ns=some r
 |[],k,r,hx=>⟨[],[],rfl,hx⟩
 |v::vs,k,r,hx=>by simp only[Jf] at hx;split at hx;rename_i ag cs c;obtain⟨l,ns,a,e⟩:=amN hx;obtain⟨ds,oK,b,d⟩:=Sq e;refine⟨_,_,?_,d⟩;simp only[GB,sO,SV.nz c,a,b];cases ag<;>rfl;cases hx
end
def IB:List Nat->Bool
 |[]=>true
 |n::l=> !(l.contains n)&&IB l
theorem QV:∀{l:List Nat},IB l=true->l.Nodup
 |[],_=>List.nodup_nil
 |n::l,h=>by simp only[IB,so,za6] at h;rw[List.nodup_cons];refine⟨fun hm=>?_,QV h.2⟩;have:l.contains n=true:=(by simpa using hm);rw[this] at h;cases h.1
def ND (σ:ai) (ms:List bI) (aC:aF):Option (aX aC.aW):=
 zw σ ms fun vs=>Jf σ.h vs fun ds ns=>fj (IB ns) (qb aC ds)
theorem aaU {σ:ai} {ms:List bI} {aC:aF} {y:aX aC.aW} (h:ND σ ms aC=some y):σ.er.v8 ms=some (dG aC y):=by unfold ND at h;obtain⟨vs,b,e⟩:=FX h;obtain⟨ds,ns,d,a⟩:=Sq e;have c:=(cv a).1;replace h6:=(cv a).2;have f:sO σ.er.h (vs.map SV.er)=some (ds.map cD.er,ns):=d;simp only[St.v8,b,f,ah (QV c),tI h6]
def Sr (σ:ai) (ms:List bI) (aC:aF):Option (aX aC.aW):=
 match ms with
 |.cell t sz true::Y0=>match σ.env t with
  |.one (.ptr n kk z off)=>match σ.h n with
   |some (.ef us x [])=>dr kk 0 (dr off 0 (dr sz us.length (fj (Ty.gz us) (zw σ Y0 fun vs=>Jf σ.h vs fun ds ns=>fj (IB ns) (QL aC us x ds)))))
   |_=>ND σ ms aC
  |_=>ND σ ms aC
 |_=>ND σ ms aC
theorem akn (h:Nat->Option aA):∀{l:List C},Am.gz l=true->v9 h (l.map .c)=some (l,[])
 |[],_=>rfl
 |c::l,hs=>by simp only[Am.gz,zaW,so] at hs;have a:=akn h (l:=l) hs.2;simp only[GB,v9,oN,hs.1,if_true,a,zbW]
theorem amM {σ:ai} {ms:List bI} {aC:aF} {y:aX aC.aW} (h:Sr σ ms aC=some y):σ.er.v8 ms=some (dG aC y):=by unfold Sr at h;split at h;rename_i t sz f;split at h;rename_i n kk z off hp;split at h;rename_i us x hn;have a:=(br h).1;replace h:=(br h).2;subst a;have a:=(br h).1;replace h:=(br h).2;subst a;have a:=(br h).1;replace h:=(br h).2;subst a;have hb:=(cv h).1;replace h:=(cv h).2;obtain⟨vs,g,e⟩:=FX h;obtain⟨ds,ns,k,b⟩:=Sq e;have i:=(cv b).1;replace h6:=(cv b).2;have d:sO σ.er.h (vs.map SV.er)=some (ds.map cD.er,ns):=k;have j:σ.er.env t=.one (.ptr n 0 z 0):=(by show(σ.env t).er=_;rw[hp];rfl);have hs:sub ((Ty.aE us x).map aj.c) 0 us.length=some ((Ty.aE us x).map aj.c):=(by unfold sub;rw[ah (by simp[Ty.mC]),List.drop_zero,zbj (by simp[Ty.mC])]);have hl:loadAt σ.er.h (.ptr n 0 z 0) us.length=some ((Ty.aE us x).map .c):=(by simp only[loadAt,yp hn,SB.er,if_true,zaG,zbV,hs]);have hr:σ.er.tQ (.cell t us.length true::f)=some (.agg ((Ty.aE us x).map .c)::vs.map SV.er):=(by simp only[St.tQ,j,hl,g];rfl);have hd:sO σ.er.h (.agg ((Ty.aE us x).map .c)::vs.map SV.er)=some ((K.agg,Ty.aE us x)::ds.map cD.er,ns):=(by simp only[sO,au.cells?,akn σ.er.h (show Am.gz (Ty.aE us x)=true by rw[Ty.FI];exact hb),d,if_true,zbW]);simp only[St.v8,hr,hd,ah (QV i),ahf h6];exact aaU h;exact aaU h;exact aaU h
def eE (N:Nat) (T:List ax) (sc:bO) (ms:List bI) (args aC:aF) (x:aX args.aW):Option (aX aC.aW):=
 oP N T sc (aar args x) (fun σ=>Sr σ ms aC) (fun _ _=>none) (fun σ=>Sr σ ms aC)
theorem azG {T:List ax} {sc:bO} {ms:List bI} {args aC:aF} {x:aX args.aW} {y:aX aC.aW} (h:eE aP T sc ms args aC x=some y): Rk (dB T) sc.er ms (dG args x)=some (dG aC y):=by obtain⟨o,b,a⟩:=vb sc h;rw[aAq] at b;unfold Rk;rw[b];cases o with|ij τ=>obtain⟨c,rfl,a⟩:=a;exact amM a|ret τ=>obtain⟨c,rfl,a⟩:=a;exact amM a|ext i τ=>obtain⟨c,rfl,a⟩:=a;cases a
theorem B4:∀(as:aF) (x:aX as.aW),(dG as x).length=as.length
 |[],_=>rfl
 |[a],_=>rfl
 |a::b::as,x=>by simp only[dG,IS,B4 (b::as) x.2]
def u9:Nat->List (Option Mode)->List TD->List SC
 |c,some _::fs,⟨.list ts,xs⟩::l=>.sl (aL+c) ts.length 0 (ae (α:=Ty.DL ts) xs)::u9 (c+1) fs l
 |c,some _::fs,⟨.int _,_⟩::l=>.bZ::u9 (c+1) fs l
 |c,some _::fs,⟨.bool,_⟩::l=>.bZ::u9 (c+1) fs l
 |c,none::fs,x::l=>.v x.1 x.2::u9 c fs l
 |c,[],l=>l.map fun x=>.v x.1 x.2
 |c,_::_,[]=>[]
theorem Ni:∀(c:Nat) (a:List (Option Mode)) (l:List TD),(u9 c a l).map SC.er=kv c a (du l)
 |c,some m::a,⟨.list ts,xs⟩::l=>by simp only[u9,du,GB,Ty.er,kv,SC.er];have:=Ni (c+1) a l;simp only[du] at this;rw[this];exact congrArg (fun q=>aj.sl (aL+c) ts.length 0 q::_) (By (Ty.aE ts)).symm
 |c,some m::a,⟨.int k,x⟩::l=>by simp only[u9,du,GB,Ty.er,kv,SC.er];exact congrArg _ (Ni (c+1) a l)
 |c,some m::a,⟨.bool,x⟩::l=>by simp only[u9,du,GB,Ty.er,kv,SC.er];exact congrArg _ (Ni (c+1) a l)
 |c,none::a,⟨t,x⟩::l=>by simp only[u9,du,GB,kv,SC.er];exact congrArg _ (Ni c a l)
 |c,[],l=>by cases l<;>simp[u9,du,kv,SC.er]
 |c,some m::a,[]=>rfl
 |c,none::a,[]=>rfl
def ZX (c:Nat) (s:List (Option Mode)) (ts:List Ty) (x:Ty.DL ts):SC:=
 match s with
 |[]=>.dN ts x 0
 |_::_=>match(Ty.gU ts x).getLast? with
  |some ⟨.list us,l⟩=>.dh ts x 0 (ts.length - 1) (aL+c) us.length (ae l)
  |_=>.bZ
theorem azY (c:Nat) (s:List (Option Mode)) (ts:List Ty) (x:Ty.DL ts):(ZX c s ts x).er=Ki c s (Ty.aE ts x):=by cases s with|nil=>rfl|cons f fs=>have a:Ty.aE ts x=(Ty.gU ts x).map fun y=>y.1.er y.2:=(Ty.pQ ts x).symm;have b:(Ty.aE ts x).length=ts.length:=Ty.mC ts x;simp only[ZX,Ki];rw[b,a,List.getLast?_map];cases hl:(Ty.gU ts x).getLast? with|none=>rfl|some y=>obtain⟨t,l⟩:=y;cases t with|list us=>simp only[AN,Ty.er,SC.er,a,ae];exact congrArg (aj.dh _ 0 (ts.length - 1) (aL+c) us.length) (By (as:=(l:List (Ty.DL us))) (Ty.aE us)).symm|int k=>rfl|bool=>rfl
def Nj (c:Nat) (s:List (Option Mode)) (d:K×List Ty) (x:Ty.DL d.2):SV:=
 match d.1 with
 |.one=>match u9 c s (Ty.gU d.2 x) with
  |[y]=>.one y
  |_=>.one .bZ
 |.agg=>.agg (u9 c s (Ty.gU d.2 x))
 |.ptr=>.one (ZX c s d.2 x)
theorem akv (c:Nat) (s:List (Option Mode)) (d:K×List Ty) (x:Ty.DL d.2):(Nj c s d x).er=uf c s (d.1,Ty.aE d.2 x):=by
 obtain⟨k,ts⟩:=d;have h:=Ni c s (Ty.gU ts x);rw[Ty.pQ] at h;cases k with
 |one=>
  simp only[Nj,uf,<-h];generalize u9 c s (Ty.gU ts x)=l;match l with
  |[]=>rfl
  |[y]=>rfl
  |_::_::_=>rfl
 |agg=>simp only[Nj,uf,<-h,SV.er]
 |ptr=>exact congrArg au.one (azY c s ts x)
def Nt:Nat->Nat->cR->(as:aF)->aX as.aW->(Nat->SV)
 |_,_,_,[],_=>fun _=>.one .bZ
 |k,c,sig,[a],x=>aV (fun _=>.one .bZ) k (Nj c sig.hd a x)
 |k,c,sig,a::b::as,x=>aV (Nt (k+1) (c+(gB sig.hd (Ty.gU a.2 x.1)).length) sig.tl (b::as) x.2) k (Nj c sig.hd a x.1)
theorem VP {α β:Type}:∀(s:List (Option Mode)) (l:List α) (a:List β),l.length=a.length->(gB s l).length=(gB s a).length
 |some m::fs,x::xs,y::ys,h=>by simp only[gB,IS,VP fs xs ys (by simpa using h)]
 |none::fs,x::xs,y::ys,h=>by simp only[gB];exact VP fs xs ys (by simpa using h)
 |[],l,a,h=>by cases l<;>cases a<;>rfl
 |some m::fs,[],[],h=>rfl
 |none::fs,[],[],h=>rfl
 |_::_,[],_::_,h=>by simp at h
 |_::_,_::_,[],h=>by simp at h
theorem VC (ts:List Ty) (x:Ty.DL ts):(Ty.gU ts x).length=(Ty.aE ts x).length:=by rw[<-Ty.pQ,du,By]
theorem af8 (k c:Nat) (sig:cR) (d:Dv) (ds:List Dv):qM k c sig (d::ds)=aV (qM (k+1) (c+(gB sig.hd d.2).length) sig.tl ds) k (uf c sig.hd d):=by cases sig with|nil=>have:(gB (cR.hd []) d.2).length=0:=rfl;rw[this];simp only[qM,zbo,cR.tl,cR.hd]|cons s sig=>rfl
theorem amc:∀(k c:Nat) (sig:cR) (as:aF) (x:aX as.aW),vp (Nt k c sig as x)=qM k c sig (dG as x)
 |k,c,sig,[],x=>by cases sig<;>rfl
 |k,c,sig,[a],x=>by simp only[Nt,dG,B5];have h:=akv c sig.hd a x;rw[af8];have e:qM (k+1) (c+(gB sig.hd (Ty.aE a.2 x)).length) sig.tl []=B3:=(by simp only[qM]);rw[e];exact congrArg (fun v=>aV (vp fun _=>SV.one SC.bZ) k v) h
 |k,c,sig,a::b::as,x=>by have d:=amc (k+1) (c+(gB sig.hd (Ty.gU a.2 x.1)).length) sig.tl (b::as) x.2;simp only[Nt,dG,B5,akv,d,af8 (ds:=dG (b::as) x.2)];rw[VP sig.hd (Ty.gU a.2 x.1) (Ty.aE a.2 x.1) (VC _ _)]
def zt (sig:cR) (as:aF) (x:aX as.aW):List (Mode×TD):=e7 sig ((kM as x).map (·.2))
theorem I3 (sig:cR) (as:aF) (x:aX as.aW):(zt sig as x).map (fun p=>(p.1,p.2.1.er p.2.2))=e7 sig ((dG as x).map (·.2)):=by unfold zt;rw[<-wX,<-Hq (fun p:TD=>p.1.er p.2)];simp only[zap];rfl
def aaW:Mode×TD->Option SB
 |(m,⟨.list ts,xs⟩)=>some (.row false m ts xs)
 |_=>none
theorem aAM (p:Mode×TD):(aaW p).map SB.er=oO (p.1,p.2.1.er p.2.2):=by obtain⟨m,t,x⟩:=p;cases t<;>rfl
def Ji:List (Mode×TD)->Nat->Option SB
 |[],_=>none
 |p::_,0=>aaW p
 |_::l,n+1=>Ji l n
theorem amQ:∀(l:List (Mode×TD)) (n:Nat),Ji l n=(l[n]?).bind aaW
 |[],n=>by simp[Ji]
 |p::l,0=>by simp[Ji]
 |p::l,n+1=>by simp[Ji,amQ l n]
def amb (fl:List (Mode×TD)):Nat->Option SB:=fun n=>match zai aL n with
 |true=>Ji fl (Nat.sub n aL)
 |false=>none
def Nv (sig:cR) (as:aF) (x:aX as.aW):ai:={env:=Nt 0 0 sig as x,h:=amb (zt sig as x),used:=fun n=>zai aL n}
theorem aas (sig:cR) (as:aF) (x:aX as.aW):(Nv sig as x).er=rC sig (dG as x):=by simp only[Nv,ai.er,rC,amc];congr 1;funext n;simp only[dT,amb];cases hb:zai aL n with|true=>rw[ah (zaB hb),<-I3,amQ];simp only[zad];(cases (zt sig as x)[n - aL]? with|none=>simp|some p=>simp[aAM])|false=>rw[ak (fun h=>by rw[zaf h] at hb;cases hb)];rfl
def ai.nh (σ:ai):ai:={σ with h:=fun n=>match zai aL n with|true=>none|false=>σ.h n}
theorem ai.axl (σ:ai):σ.nh.er=σ.er.nh:=by simp only[ai.nh,ai.er,St.nh];congr 1;funext n;simp only[dT];cases hb:zai aL n with|true=>rw[ah (zaB hb)];rfl|false=>rw[ak (fun h=>by rw[zaf h] at hb;cases hb)]
section
variable {ρ:Type}
def aaE (σ:ai) (q:Nat) (p:Mode×TD) (k:TD->Option ρ):Option ρ:=
 match p with
 |(m,⟨.list ts,xs⟩)=>match σ.h (aL+q) with
  |some (.row _ m' us ys)=>fj (Mode.beq m' m) (fj (Ty.r5 us ts) (fj (abo m us) ((qT (ae ys) (ae (α:=Ty.DL ts) xs)).ab fun _=>k ⟨.list us,ys⟩)))
  |_=>none
 |_=>none
theorem agi (t:Ty) (x:t.D):(t.er x).vN= !t.gx:=by cases t<;>rfl
theorem agh:∀(ts:List Ty) (x:Ty.DL ts),(Ty.aE ts x).map C.vN=ts.map fun t=> !t.gx
 |[],_=>rfl
 |[t],x=>congrArg (fun b=>[b]) (agi t x)
 |t::u::ts,x=>by have:=agh (u::ts) x.2;simp only[GB] at this;simp only[Ty.aE,GB,agi,this]
theorem agj (ts:List Ty) (xs:List (Ty.DL ts)):(zbx (Ty.aE ts) xs).map (fun e=>e.map C.vN)=OF xs.length (ts.map fun t=> !t.gx):=by induction xs with|nil=>rfl|cons x xs a=>simp only[GB,agh,a,IS,zbA]
theorem aAw {σ:ai} {q:Nat} {p:Mode×TD} {k:TD->Option ρ} {r:ρ} (h:aaE σ q p k=some r):∃o:TD,Fu σ.er q (p.1,p.2.1.er p.2.2)=some (o.1.er o.2)/\k o=some r:=by unfold aaE at h;split at h;rename_i m ts xs;split at h;rename_i i d us ys hn;have b:=(cv h).1;replace h:=(cv h).2;have a:=(cv h).1;replace h:=(cv h).2;have l:=(cv h).1;replace h:=(cv h).2;rw[fI] at h;obtain⟨_,hs,h⟩:=h;have hl:ae ys=ae (α:=Ty.DL ts) xs:=(by unfold qT at hs;split at hs;assumption;cases hs);have b:=Mode.beq_eq b;have a:=Ty.qt a;subst b a;refine⟨_,?_,h⟩;have f:σ.er.h (aL+q)=some (.row i d us.length (zbx (Ty.aE us) ys)):=(by simp[ai.er,dT,hn,SB.er]);have c:zbb ys=zbb (α:=Ty.DL us) xs:=hl;have j:(zbx (Ty.aE us) ys).length=(zbx (α:=Ty.DL us) (Ty.aE us) xs).length:=(By _).trans (c.trans (By (as:=(xs:List (Ty.DL us))) (Ty.aE us)).symm);have g:(zbx (Ty.aE us) ys).map (fun e=>e.map C.vN)=(zbx (α:=Ty.DL us) (Ty.aE us) xs).map (fun e=>e.map C.vN):= (agj us ys).trans ((congrArg (fun n=>OF n _) c).trans (agj us xs).symm);simp only[Fu,Ty.er,f];rw[ah ⟨trivial,trivial,j,ael _ _ _ l,g⟩];cases h;cases h
def Sk (σ:ai):Nat->List (Mode×TD)->(List TD->Option ρ)->Option ρ
 |_,[],k=>k []
 |q,p::l,k=>aaE σ q p fun o=>Sk σ (q+1) l fun os=>k (o::os)
theorem amy {σ:ai}:∀{l:List (Mode×TD)} {q:Nat} {k:List TD->Option ρ} {r:ρ},Sk σ q l k=some r->∃os,zm σ.er q (l.map fun p=>(p.1,p.2.1.er p.2.2))=some (du os)/\k os=some r
 |[],q,k,r,h=>⟨[],rfl,h⟩
 |p::l,q,k,r,h=>by simp only[Sk] at h;obtain⟨o,a,d⟩:=aAw h;obtain⟨os,b,c⟩:=amy d;exact⟨o::os,by simp only[GB,zm,a,b,du],c⟩
end
def Jg (σ:ai) (ms:List bI) (fl:List (Mode×TD)) (kk:Nat) (aC:aF):Option (aX aC.aW):=
 zw σ.nh ms fun vs=>Jf σ.nh.h vs fun ds ns=>fj (IB ns) (dr ds.length kk (Sk σ 0 fl fun os=>qb aC (ds++os.map fun o=>(.one,[o]))))
theorem Su {σ:ai} {ms:List bI} {fl:List (Mode×TD)} {b:Nat} {aC:aF} {y:aX aC.aW} (h:Jg σ ms fl b aC=some y): σ.er.zq ms (fl.map fun p=>(p.1,p.2.1.er p.2.2))=some (tS b (dG aC y)):=by unfold Jg at h;obtain⟨vs,i,g⟩:=FX h;obtain⟨ds,ns,l,a⟩:=Sq g;have j:=(cv a).1;replace a:=(cv a).2;have f:=(br a).1;replace a:=(br a).2;obtain⟨os,c,d⟩:=amy a;have e:sO σ.nh.er.h (vs.map SV.er)=some (ds.map cD.er,ns):=l;have hr:σ.er.nh.v8 ms=some (ds.map cD.er):=(by rw[<-ai.axl];simp only[St.v8,i,e,ah (QV j)]);simp only[St.zq,hr,c,<-tI d,Jd,<-f];congr 2;rw[zb3];rw[zb4];congr 1;clear c d;induction os with|nil=>rfl|cons o os k=>rw[GB,List.flatMap_cons,<-k];rfl
def Nc (N:Nat) (T:List ax) (sc:bO) (ms:List bI) (args:aF) (mu:cR) (aC:aF) (x:aX args.aW):Option (aX aC.aW):=
 oP N T sc (Nv mu args x) (fun σ=>Jg σ ms (zt mu args x) (aC.length - mu.r8) aC) (fun _ _=>none) (fun σ=>Jg σ ms (zt mu args x) (aC.length - mu.r8) aC)
theorem azF {T:List ax} {sc:bO} {ms:List bI} {args:aF} {mu:cR} {aC:aF} {x:aX args.aW} {y:aX aC.aW} (h:Nc aP T sc ms args mu aC x=some y): Rl (dB T) sc.er ms mu (dG args x)=some (tS (aC.length - mu.r8) (dG aC y)):=by obtain⟨o,b,a⟩:=vb sc h;rw[aas] at b;unfold Rl;rw[b];cases o with|ij τ=>obtain⟨c,rfl,a⟩:=a;simp only[<-I3];exact Su a|ret τ=>obtain⟨c,rfl,a⟩:=a;simp only[<-I3];exact Su a|ext i τ=>obtain⟨c,rfl,a⟩:=a;cases a
def Nd (N:Nat) (T:List ax) (sc:bO) (ms:List bI) (i:Nat) (args aC:aF) (lo hi:Int) (x:aX args.aW):Option (aX aC.aW):=
 match zt (oe i) args x with
 |[(_,⟨.list ts,xs⟩)]=>(jg lo hi (ae (α:=Ty.DL ts) xs)).ab fun p=>
  oP N T sc ((Nv (oe i) args x).put (some i) (.one (.sl aL 1 p.1 p.2))) (fun σ=>Jg σ ms (zt (oe i) args x) (aC.length - 1) aC) (fun _ _=>none) (fun σ=>Jg σ ms (zt (oe i) args x) (aC.length - 1) aC)
 |_=>none
theorem azJ {T:List ax} {sc:bO} {ms:List bI} {i:Nat} {args aC:aF} {lo len:Nat} {x:aX args.aW} {y:aX aC.aW} (h:Nd aP T sc ms i args aC (lo:Int) ((lo+len:Nat):Int) x=some y): Rp (dB T) sc.er ms i lo len (dG args x)=some (tS (aC.length - 1) (dG aC y)):=by unfold Nd at h;split at h;rw[fI] at h;obtain⟨p,hs,h⟩:=h;have hp:p=(lo,len):=(by unfold jg at hs;split at hs;injection hs with hs;rw[<-hs];congr 1;omega;cases hs);subst hp;obtain⟨o,b,a⟩:=vb sc h;rw[ai.eX,aas] at b;unfold Rp St.win;have e:(SV.one (.sl aL 1 lo len)).er=au.one (.sl aL 1 lo len):=rfl;rw[e] at b;rw[b];(cases o with|ij τ=>obtain⟨c,rfl,a⟩:=a;simp only[<-I3];exact Su a|ret τ=>obtain⟨c,rfl,a⟩:=a;simp only[<-I3];exact Su a|ext i τ=>obtain⟨c,rfl,a⟩:=a;cases a);cases h
def Nh (k:K) (ts:List Ty) (x:Ty.DL ts):SV:=
 match k with
 |.one=>match Ty.cells ts x with
  |[c]=>.one c
  |_=>.one .bZ
 |.agg=>.agg (Ty.cells ts x)
 |.ptr=>.one (.ptr aL 0 0 0)
theorem aku (k:K) (ts:List Ty) (x:Ty.DL ts):(Nh k ts x).er=Kh (k,Ty.aE ts x):=by
 cases k with
 |one=>
  match ts,x with
  |[],x=>rfl
  |[t],x=>rfl
  |t::u::[],x=>rfl
  |t::u::v::ts,x=>rfl
 |agg=>simp only[Nh,SV.er,Kh,Ty.nz]
 |ptr=>rfl
def Nu:Nat->(as:aF)->aX as.aW->(Nat->SV)
 |_,[],_=>fun _=>.one .bZ
 |k,[a],x=>aV (fun _=>.one .bZ) k (Nh a.1 a.2 x)
 |k,a::b::as,x=>aV (Nu (k+1) (b::as) x.2) k (Nh a.1 a.2 x.1)
theorem amd:∀(k:Nat) (as:aF) (x:aX as.aW),vp (Nu k as x)=yT k (dG as x)
 |k,[],x=>rfl
 |k,[a],x=>by have e:(Nh a.1 a.2 x).er=Kh (a.1,Ty.aE a.2 x):=aku a.1 a.2 x;simp only[Nu,dG,yT,B5];rw[e];rfl
 |k,a::b::as,x=>by have c:=amd (k+1) (b::as) x.2;simp only[Nu,dG,B5,aku,c];rw[yT]
def sQ:(as:aF)->aX as.aW->Option (List TD)
 |[],_=>none
 |[a],x=>match a.1.tA with
  |true=>some (Ty.gU a.2 x)
  |false=>none
 |a::b::as,x=>match a.1.tA with
  |true=>some (Ty.gU a.2 x.1)
  |false=>sQ (b::as) x.2
theorem aj0 (k:K) (xs:List C) (ds:List Dv):rM ((k,xs)::ds)=match k.tA with|true=>some xs|false=>rM ds:=by cases k<;>rfl
theorem afA (k:K) (ts:List Ty) (as:aF):Ce ((k,ts)::as)=match k.tA with|true=>true|false=>Ce as:=by cases k<;>rfl
theorem NB:∀(as:aF) (x:aX as.aW),(sQ as x).map du=rM (dG as x)
 |[],_=>rfl
 |[(k,ts)],x=>by simp only[sQ,dG,aj0];cases k.tA with|true=>exact congrArg some (Ty.pQ ts x)|false=>rfl
 |(k,ts)::b::as,x=>by simp only[sQ,dG,aj0];cases k.tA with|true=>simp only[AN];rw[Ty.pQ]|false=>exact NB (b::as) x.2
theorem Sn:∀(as:aF) (x:aX as.aW),(sQ as x).isSome=Ce as
 |[],_=>rfl
 |[(k,ts)],x=>by simp only[sQ,afA];cases k.tA<;>rfl
 |(k,ts)::b::as,x=>by simp only[sQ];rw[afA];cases k.tA with|true=>rfl|false=>exact Sn (b::as) x.2
def Je:(as:aF)->aX as.aW->Option ((us:List Ty)×Ty.DL us)
 |[],_=>none
 |[a],x=>match a.1.tA with
  |true=>some ⟨a.2,x⟩
  |false=>none
 |a::b::as,x=>match a.1.tA with
  |true=>some ⟨a.2,x.1⟩
  |false=>Je (b::as) x.2
theorem amH:∀(as:aF) (x:aX as.aW),sQ as x=(Je as x).map fun p=>Ty.gU p.1 p.2
 |[],_=>rfl
 |[a],x=>by simp only[sQ,Je];cases a.1.tA<;>rfl
 |a::b::as,x=>by simp only[sQ,Je];cases a.1.tA with|true=>rfl|false=>exact amH (b::as) x.2
def amf (as:aF) (x:aX as.aW):Nat->Option SB:=fun n=>match zab n aL with
 |true=>match Je as x with
  |some p=>match zai 101 p.1.length with
   |true=>some (Kd 100 p.1 p.2)
   |false=>some (.box ((Ty.gU p.1 p.2).map fun y=>.v y.1 y.2))
  |none=>none
 |false=>none
def aat (as:aF) (x:aX as.aW):ai:={env:=Nu 0 as x,h:=amf as x,used:=fun n=>zai aL n}
theorem aAp (as:aF) (x:aX as.aW):(aat as x).er=L8 (dG as x):=by simp only[aat,ai.er,L8,amd];congr 1;funext n;simp only[dT,amf,tz];cases zab n aL with|false=>rfl|true=>simp only;rw[<-NB,amH];cases Je as x with|none=>rfl|some p=>simp only[AN];cases zai 101 p.1.length with|true=>simp only[AN,UI,Ty.pQ]|false=>simp only[AN,SB.er,abu]
section
variable {ρ:Type}
def Sp (h:Nat->Option SB):List SV->(List cD->Option ρ)->Option ρ
 |[],k=>k []
 |v::vs,k=>match v.cells? with
  |some (ag,cs)=>ww h cs fun l=>Sp h vs fun ds=>k ((Qj ag,l)::ds)
  |none=>none
theorem amL {h:Nat->Option SB}:∀{vs:List SV} {k:List cD->Option ρ} {r:ρ},Sp h vs k=some r->∃ds,v7 (dT h) (vs.map SV.er)=some (ds.map cD.er)/\k ds=some r
 |[],k,r,hx=>⟨[],rfl,hx⟩
 |v::vs,k,r,hx=>by simp only[Sp] at hx;split at hx;rename_i ag cs c;obtain⟨l,a,e⟩:=zy hx;obtain⟨ds,b,d⟩:=amL e;refine⟨_,?_,d⟩;simp only[GB,v7,SV.nz c,a,b,cD.er];cases ag<;>rfl;cases hx
def amG:List SV->Option (Nat×Nat×Nat)
 |[v]=>v.qP
 |_=>none
theorem aBD {v:SV} (h:v.qP=none) (a:Nat->Option aA):Bp a v.er=none:=by cases v with|one c=>(cases c<;>first|rfl|(simp[SV.qP] at h))|_=>rfl
def aaV (h:Nat->Option SB) (vs:List SV) (k:List cD->Option ρ):Option ρ:=
 match amG vs with
 |some (n,kk,off)=>match kk,off with
  |0,0=>match h n with
   |some (.box cs)=>match zai aL n with
    |true=>none
    |false=>ww h cs fun l=>k [(.ptr,l)]
   |_=>none
  |_,_=>none
 |none=>Sp h vs k
theorem aAL {h:Nat->Option SB} {vs:List SV} {k:List cD->Option ρ} {r:ρ} (hx:aaV h vs k=some r):∃ds,Dc (dT h) (vs.map SV.er)=some (ds.map cD.er)/\k ds=some r:=by
 unfold aaV at hx;split at hx
 ·rename_i n f off hp;have d:∃sz,vs=[.one (.ptr n f sz off)]:=by
   unfold amG at hp;split at hp
   ·obtain⟨sz,rfl⟩:=ajZ hp;exact⟨sz,rfl⟩
   ·cases hp
  obtain⟨sz,rfl⟩:=d;split at hx
  ·split at hx
   ·rename_i cs i;split at hx
    ·cases hx
    ·rename_i hb;obtain⟨l,a,c⟩:=zy hx;refine⟨_,?_,c⟩;have e:Bp (dT h) (SV.er (.one (.ptr n 0 sz 0)))=some (n,du l):=by
      have g:dT h n=some (.box (cs.map SC.er)):=by simp[dT,i,SB.er]
      simp only[SV.er,SC.er,Bp,g,and_self,if_true,a]
     have hn:¬aL<=n:=fun o=>by rw[zaf o] at hb;cases hb
     simp only[GB,zaG,Dc,e];rw[ak hn];rfl
   ·cases hx
  ·cases hx
 ·rename_i hp;obtain⟨ds,a,c⟩:=amL hx;refine⟨ds,?_,c⟩;unfold Dc;split
  ·rename_i j b;have d:∃v,vs=[v]/\j=v.er:=by
    match vs,b with
    |[v],b=>simp at b;exact⟨v,rfl,b.symm⟩
   obtain⟨v,rfl,rfl⟩:=d;have m:v.qP=none:=hp;rw[show Bp (dT h) v.er=none from aBD m _]
   exact a
  ·exact a
def aaF (h:Nat->Option SB) (cur:Option (List TD)) (k:List cD->Option ρ):Option ρ:=
 match cur with
 |none=>k []
 |some xs=>match h aL with
  |some (.box cs)=>dr cs.length xs.length (ww h cs fun l=>k [(.ptr,l)])
  |_=>none
theorem aAx {h:Nat->Option SB} {cur:Option (List TD)} {k:List cD->Option ρ} {r:ρ} (hx:aaF h cur k=some r): ∃os:List cD,AP (dT h) (cur.map du)=some (du (os.flatMap (·.2)))/\os.length=(match cur.isSome with|true=>1|false=>0)/\k os=some r:=by unfold aaF at hx;split at hx;exact⟨[],rfl,rfl,hx⟩;rename_i xs;split at hx;rename_i cs hn;have a:=(br hx).1;replace hx:=(br hx).2;obtain⟨l,b,d⟩:=zy hx;refine⟨[(.ptr,l)],?_,rfl,d⟩;have c:dT h aL=some (.box (cs.map SC.er)):=(by simp[dT,hn,SB.er]);simp only[AN,AP,c,By];rw[ah (by rw[a,du,By]),b];simp;cases hx
end
def MB:(as:aF)->List cD->(ts:List Ty)->Ty.DL ts->List TD->Option (aX as.aW)
 |[],_,_,_,_=>none
 |a::as,[],ts,y,l=>match as with
  |[]=>Fm [a] ts y l []
  |_::_=>none
 |a::as,d::ds,ts,y,l=>fj (K.beq a.1 d.1) (match pt a.2 d.2,MB as ds ts y l with
  |some x,some z=>some (Ec a.2 (aF.aW as) x z)
  |_,_=>none)
theorem ahg:∀{as:aF} {ds:List cD} {ts:List Ty} {y:Ty.DL ts} {l:List TD} {x:aX as.aW},MB as ds ts y l=some x->ds.map cD.er++[(K.ptr,Ty.aE ts y++du l)]=dG as x
 |[],ds,ts,y,l,x,h=>by simp[MB] at h
 |a::as,[],ts,y,l,x,h=>by
  match as,x,h with
  |[],x,h=>
   have h':Fm [a] ts y l []=some x:=h;have:=QM h';simpa using this
 |a::as,d::ds,ts,y,l,x,h=>by
  simp only[MB] at h;have c:=(cv h).1;replace b:=(cv h).2;split at b
  ·rename_i u z e f;injection b with b;subst b;rw[KO,GB,List.cons_append,ahg f,cD.er,<-K.beq_eq c,<-xE e]
  ·cases b
def ab2 (h:Nat->Option SB):List SV->Option J8
 |[v]=>GK h v
 |_=>none
def UH (h:Nat->Option SB) (cur:Option (List TD)):Option (J8×Nat):=
 match cur with
 |some xs=>match h aL with
  |some (.ef ts y cs)=>some (⟨aL,ts,y,cs⟩,xs.length)
  |_=>none
 |none=>none
theorem anY {h:Nat->Option SB} {cur:Option (List TD)} {q:J8} {n:Nat} (e:UH h cur=some (q,n)):h aL=some (.ef q.ts q.y q.cs)/\∃xs,cur=some xs/\xs.length=n:=by unfold UH at e;split at e;split at e;rename_i hn;injection e with e;injection e with a e2;subst a e2;exact⟨hn,_,rfl,rfl⟩;cases e;cases e
def Sv (σ:ai) (ms:List bI) (cur:Option (List TD)) (aC:aF):Option (aX aC.aW):=
 zw σ ms fun vs=>match ab2 σ.h vs with
  |some q=>fj (cur.isNone&& !Nat.ble aL q.n) (ww σ.h q.cs fun l=>Fm aC q.ts q.y l [])
  |none=>aaV σ.h vs fun ds=>match UH σ.h cur with
   |some (q,n)=>dr (q.ts.length+q.cs.length) n (ww σ.h q.cs fun l=>MB aC ds q.ts q.y l)
   |none=>aaF σ.h cur fun os=>qb aC (ds++os)
theorem amO {σ:ai} {ms:List bI} {args:aF} {x:aX args.aW} {aC:aF} {y:aX aC.aW} (h:Sv σ ms (sQ args x) aC=some y): σ.er.C9 ms (dG args x)=some (tS (aC.length - pu args) (dG aC y)):=by unfold Sv at h;obtain⟨vs,s,f⟩:=FX h;have t:(dG aC y).length=aC.length:=B4 aC y;split at f;rename_i q d;have hb:=(cv f).1;replace f:=(cv f).2;rw[so,za6] at hb;have D:∃sz,vs=[.one (.ptr q.n 0 sz 0)]/\σ.h q.n=some (.ef q.ts q.y q.cs):=(by unfold ab2 at d;split at d;obtain⟨w,sz,rfl⟩:=Og d;exact⟨sz,rfl,w⟩;cases d);obtain⟨sz,rfl,hn⟩:=D;obtain⟨l,k,a⟩:=zy f;have g:=QM a;have z:rM (dG args x)=none:=(by rw[<-NB];cases hs:sQ args x with|none=>rfl|some _=>rw[hs] at hb;cases hb.1);have j:pu args=0:=(by have:=Sn args x;unfold pu;cases hs:sQ args x with|none=>rw[hs] at this;rw[<-this];rfl|some _=>rw[hs] at hb;cases hb.1);have r:σ.er.h q.n=some (.box ((Ty.aE q.ts q.y).map .c++q.cs.map SC.er)):=(by simp[ai.er,dT,hn,SB.er]);have o:ie σ.er.h ((Ty.aE q.ts q.y).map .c++q.cs.map SC.er)=some (Ty.aE q.ts q.y++du l):=SS k _;have e:Bp σ.er.h (SV.er (.one (.ptr q.n 0 sz 0)))=some (q.n,Ty.aE q.ts q.y++du l):=(by simp only[SV.er,SC.er,Bp,r,and_self,if_true,o]);have hp:¬aL<=q.n:=fun C=>(by rw[zaf C] at hb;cases hb.2);simp only[St.C9,s,GB,zaG,Dc,e,ak hp,z,AP,j,zbP,tS];rw[zbj (zbm t),List.drop_of_length_le (zbm t),<-g];rfl;rename_i rv;obtain⟨ds,k,a⟩:=aAL f;split at a;rename_i q n d;obtain⟨hn,xs,hx,rfl⟩:=anY d;have hl:=(br a).1;replace a:=(br a).2;obtain⟨l,g,p⟩:=zy a;have i:=ahg p;have j:pu args=1:=(by have:=Sn args x;unfold pu;rw[hx] at this;rw[<-this];rfl);have r:σ.er.h aL=some (.box ((Ty.aE q.ts q.y).map .c++q.cs.map SC.er)):=(by simp[ai.er,dT,hn,SB.er]);have o:ie σ.er.h ((Ty.aE q.ts q.y).map .c++q.cs.map SC.er)=some (Ty.aE q.ts q.y++du l):=SS g _;have A:AP σ.er.h (rM (dG args x))=some (Ty.aE q.ts q.y++du l):=(by rw[<-NB,hx];simp only[AN,AP,r];rw[ah (by rw[Pe,By,By,Ty.mC,du,By];exact hl),o]);have b:aC.length - 1=ds.length:=(by have:=congrArg zbb i;rw[t,Pe,By] at this;simp at this;omega);have m:Dc σ.er.h (vs.map SV.er)=some (ds.map cD.er):=k;simp only[St.C9,s,m,A,j,b,tS];rw[<-i,List.take_left' (by rw[By]),List.drop_left' (by rw[By])];simp;obtain⟨os,g,p,i⟩:=aAx a;have u:=tI i;have b:aC.length=ds.length+os.length:=(by have:=congrArg zbb u;rw[B4,By,Pe] at this;exact this.symm);have j:pu args=os.length:=(by rw[p,Sn];unfold pu;cases Ce args<;>rfl);have B:aC.length - pu args=ds.length:=(by omega);have m:Dc σ.er.h (vs.map SV.er)=some (ds.map cD.er):=k;have v:AP σ.er.h (rM (dG args x))=some (du (os.flatMap (·.2))):=(by rw[<-NB];exact g);simp only[St.C9,s,m,v,B];rw[<-u,Jd,zb3,zb4]
def n6 (N:Nat) (T:List ax) (sc:bO) (ms:List bI) (args aC:aF) (x:aX args.aW):Option (aX aC.aW):=
 oP N T sc (aat args x) (fun σ=>Sv σ ms (sQ args x) aC) (fun _ _=>none) (fun σ=>Sv σ ms (sQ args x) aC)
theorem azH {T:List ax} {sc:bO} {ms:List bI} {args aC:aF} {x:aX args.aW} {y:aX aC.aW} (h:n6 aP T sc ms args aC x=some y): Rm (dB T) sc.er ms (dG args x)=some (tS (aC.length - pu args) (dG aC y)):=by obtain⟨o,b,a⟩:=vb sc h;rw[aAp] at b;unfold Rm;rw[b];cases o with|ij τ=>obtain⟨c,rfl,a⟩:=a;exact amO a|ret τ=>obtain⟨c,rfl,a⟩:=a;exact amO a|ext i τ=>obtain⟨c,rfl,a⟩:=a;cases a
def DF:aF:=[(.one,[.int .i64]),(.one,[.int .i64])]
def Sw (σ:ai) (ms:List bI):Option (aX (aF.aW DF)):=
 zw σ ms fun vs=>match vs with
  |[.one (.sl n sz lo len)]=>dr n aL (match σ.h aL with
   |some (.row _ _ ts xs)=>dr sz ts.length ((cM (0:Int) (ae xs)).ab fun _=>some (aM lo,aM (aw lo len)))
   |_=>none)
  |_=>none
theorem amP {σ:ai} {ms:List bI} {y:aX (aF.aW DF)} (h:Sw σ ms=some y):∃lo len,σ.er.IY ms=some (lo,len)/\abx (dG DF y)=some (lo,len):=by unfold Sw at h;obtain⟨vs,d,a⟩:=FX h;split at a;rename_i n sz lo len;have f:=(br a).1;replace a:=(br a).2;split at a;rename_i j c ts xs l;have i:=(br a).1;replace a:=(br a).2;rw[fI] at a;obtain⟨k,b,a⟩:=a;injection a with a;refine⟨lo,len,?_,?_⟩;have g:σ.er.h aL=some (.row j c ts.length (zbx (Ty.aE ts) xs)):=(by simp only[ai.er,dT,l,SB.er,AN]);unfold St.IY;rw[d];simp only[GB,zaG,SV.er,SC.er];rw[ah f,g];(cases xs with|nil=>unfold cM ae at b;simp at b|cons e es=>simp only[GB];rw[ah i]);subst a;show some (((lo:Nat):Int).toNat,(((lo+len:Nat):Int) - ((lo:Nat):Int)).toNat)=some (lo,len);congr 2;omega;cases a;cases a
def Ro (N:Nat) (T:List ax) (sc:bO) (ms:List bI) (args:aF) (mu:cR) (x:aX args.aW):Option (aX (aF.aW DF)):=
 match zt mu args x with
 |[_]=>oP N T sc (Nv mu args x) (fun σ=>Sw σ ms) (fun _ _=>none) (fun σ=>Sw σ ms)
 |_=>none
theorem azI {T:List ax} {sc:bO} {ms:List bI} {args:aF} {mu:cR} {x:aX args.aW} {y:aX (aF.aW DF)} (h:Ro aP T sc ms args mu x=some y): ∃lo len,Rn (dB T) sc.er ms mu (dG args x)=some (lo,len)/\abx (dG DF y)=some (lo,len):=by unfold Ro at h;split at h;rename_i p hp;obtain⟨o,b,a⟩:=vb sc h;rw[aas] at b;unfold Rn;rw[<-I3,hp];simp only[GB,zaG];rw[b];(cases o with|ij τ=>obtain⟨c,rfl,a⟩:=a;exact amP a|ret τ=>obtain⟨c,rfl,a⟩:=a;exact amP a|ext i τ=>obtain⟨c,rfl,a⟩:=a;cases a);cases h
def ab1 (P:Program) (fn:ax):Prop:=(fn.mu.gy=0->dV P fn.id fn.M)/\(fn.mu.gy=1->BN P fn.id fn.mu fn.MM)/\(fn.mu.gy=2->lL P fn.id fn.MV)/\(fn.mu.gy=3->GF P fn.id fn.mu.tl fn.MW)/\(fn.mu.gy=4->DU P fn.id fn.mu.nq fn.MX)/\(fn.mu.gy=5->J4 P fn.id fn.M)/\bX P fn.id=true
def av (P:Program) (T:List ax):Prop:=∀fn∈T,ab1 P fn
theorem av.nil {P:Program}:av P []:=fun _ h=>by cases h
theorem av.He {P:Program} {fn:ax} {T:List ax} (h:ab1 P fn) (b:av P T):av P (fn::T):=by intro g a;cases a with|head=>exact h|tail _ a=>exact b g a
theorem av.cons {P:Program} {f:FuncId} {args aC:aF} {F:aX args.aW->Option (aX aC.aW)} {T:List ax} (h:dV P f (ax.M ⟨f,args,[],aC,F⟩)/\bX P f=true) (a:av P T):av P (⟨f,args,[],aC,F⟩::T):= av.He ⟨fun _=>h.1,fun hm=>(by cases hm),fun hm=>(by cases hm),fun hm=>(by cases hm),fun hm=>(by cases hm),fun hm=>(by cases hm),h.2⟩ a
theorem av.KC {P:Program} {f:FuncId} {args:aF} {s:List (Option Mode)} {mu:cR} {aC:aF} {F:aX args.aW->Option (aX aC.aW)} {T:List ax} (h:BN P f (s::mu) (ax.MM ⟨f,args,s::mu,aC,F⟩)/\bX P f=true) (b:av P T) (a:cR.gy (s::mu)=1:=by rfl):av P (⟨f,args,s::mu,aC,F⟩::T):= av.He ⟨fun hm=>absurd (a.symm.trans hm) (by decide),fun _=>h.1,fun hm=>absurd (a.symm.trans hm) (by decide),fun hm=>absurd (a.symm.trans hm) (by decide),fun hm=>absurd (a.symm.trans hm) (by decide),fun hm=>absurd (a.symm.trans hm) (by decide),h.2⟩ b
theorem av.jH {P:Program} {f:FuncId} {args:aF} {aC:aF} {F:aX args.aW->Option (aX aC.aW)} {T:List ax} (h:lL P f (ax.MV ⟨f,args,[[some .aQ]],aC,F⟩)/\bX P f=true) (a:av P T):av P (⟨f,args,[[some .aQ]],aC,F⟩::T):= av.He ⟨fun hm=>(by cases hm),fun hm=>(by cases hm),fun _=>h.1,fun hm=>(by cases hm),fun hm=>(by cases hm),fun hm=>(by cases hm),h.2⟩ a
theorem av.ac6 {P:Program} {f:FuncId} {args:aF} {mu:cR} {aC:aF} {F:aX args.aW->Option (aX aC.aW)} {T:List ax} (h:GF P f mu (ax.MW ⟨f,args,[some .aQ,some .aQ]::mu,aC,F⟩)/\bX P f=true) (a:av P T):av P (⟨f,args,[some .aQ,some .aQ]::mu,aC,F⟩::T):= av.He ⟨fun hm=>(by cases hm),fun hm=>(by cases hm),fun hm=>(by cases hm),fun _=>h.1,fun hm=>(by cases hm),fun hm=>(by cases hm),h.2⟩ a
theorem av.KD {P:Program} {f:FuncId} {args:aF} {mu:cR} {aC:aF} {F:aX args.aW->Option (aX aC.aW)} {T:List ax} (h:DU P f (cR.nq ([some .aQ,some .aQ,some .aQ]::mu)) (ax.MX ⟨f,args,[some .aQ,some .aQ,some .aQ]::mu,aC,F⟩)/\bX P f=true) (a:av P T):av P (⟨f,args,[some .aQ,some .aQ,some .aQ]::mu,aC,F⟩::T):= av.He ⟨fun hm=>(by cases hm),fun hm=>(by cases hm),fun hm=>(by cases hm),fun hm=>(by cases hm),fun _=>h.1,fun hm=>(by cases hm),h.2⟩ a
theorem av.yk {P:Program} {f:FuncId} {args:aF} {mu:cR} {aC:aF} {F:aX args.aW->Option (aX aC.aW)} {T:List ax} (h:J4 P f (ax.M ⟨f,args,[some .aQ,some .aQ,some .aQ,some .aQ]::mu,aC,F⟩)/\bX P f=true) (a:av P T):av P (⟨f,args,[some .aQ,some .aQ,some .aQ,some .aQ]::mu,aC,F⟩::T):= av.He ⟨fun hm=>(by cases hm),fun hm=>(by cases hm),fun hm=>(by cases hm),fun hm=>(by cases hm),fun hm=>(by cases hm),fun _=>h.1,h.2⟩ a
theorem abc:∀{T:List ax} {f:FuncId} {M:List Dv->Option (List Dv)},bj.find (dB T).ns f=some M->∃fn∈T,fn.id=f/\M=fn.M/\fn.mu.gy=5
 |[],f,M,h=>by simp[dB,bj.find] at h
 |g::l,f,M,h=>by simp only[dB,zaq] at h;by_cases b:g.mu.gy=5;simp only[b,bj.find] at h;split at h;rename_i e;injection h with h;exact⟨g,by simp,e.symm,h.symm,b⟩;obtain⟨fn,a,d,c⟩:=abc (T:=l) h;exact⟨fn,by simp[a],d,c⟩;split at h;obtain⟨fn,a,d,c⟩:=abc (T:=l) h;exact⟨fn,by simp[a],d,c⟩;rename_i z i;split at i;rename_i j;exact absurd j b;cases i
theorem SE:∀{T:List ax} {f:FuncId} {M:List Dv->Option (List Dv)},bj.find (dB T).pure f=some M->∃fn∈T,fn.id=f/\M=fn.M/\fn.mu.gy=0
 |[],f,M,h=>by simp[dB,bj.find] at h
 |g::l,f,M,h=>by simp only[dB,zaq] at h;by_cases b:g.mu.gy=0;simp only[b,bj.find] at h;split at h;rename_i e;injection h with h;exact⟨g,by simp,e.symm,h.symm,b⟩;obtain⟨fn,a,d,c⟩:=SE (T:=l) h;exact⟨fn,by simp[a],d,c⟩;split at h;obtain⟨fn,a,d,c⟩:=SE (T:=l) h;exact⟨fn,by simp[a],d,c⟩;rename_i z i;split at i;rename_i j;exact absurd j b;cases i
theorem abb:∀{T:List ax} {f:FuncId} {sig:cR} {M:List Dv->Option (List Dv×List C)},bj.th (dB T).CX f=some (sig,M)->∃fn∈T,fn.id=f/\sig=fn.mu/\M=fn.MM/\fn.mu.gy=1
 |[],f,sig,M,h=>by simp[dB,bj.th] at h
 |g::l,f,sig,M,h=>by simp only[dB,zaq] at h;by_cases b:g.mu.gy=1;simp only[b,bj.th] at h;split at h;rename_i e;injection h with h;injection h with ha hb;exact⟨g,by simp,e.symm,ha.symm,hb.symm,b⟩;obtain⟨fn,a,d,c⟩:=abb (T:=l) h;exact⟨fn,by simp[a],d,c⟩;split at h;obtain⟨fn,a,d,c⟩:=abb (T:=l) h;exact⟨fn,by simp[a],d,c⟩;rename_i z i;split at i;rename_i j;exact absurd j b;cases i
theorem abd:∀{T:List ax} {f:FuncId} {M:List Dv->Option (List Dv×List C)},bj.o8 (dB T).vs f=some M->∃fn∈T,fn.id=f/\M=fn.MV/\fn.mu.gy=2
 |[],f,M,h=>by simp[dB,bj.o8] at h
 |g::l,f,M,h=>by simp only[dB,zaq] at h;by_cases b:g.mu.gy=2;simp only[b,bj.o8] at h;split at h;rename_i e;injection h with h;exact⟨g,by simp,e.symm,h.symm,b⟩;obtain⟨fn,a,d,c⟩:=abd (T:=l) h;exact⟨fn,by simp[a],d,c⟩;split at h;obtain⟨fn,a,d,c⟩:=abd (T:=l) h;exact⟨fn,by simp[a],d,c⟩;rename_i z i;split at i;rename_i j;exact absurd j b;cases i
theorem abe:∀{T:List ax} {f:FuncId} {sig:cR} {M:List Dv->Option (Nat×Nat)},bj.w6 (dB T).ws f=some (sig,M)->∃fn∈T,fn.id=f/\sig=fn.mu.tl/\M=fn.MW/\fn.mu.gy=3
 |[],f,sig,M,h=>by simp[dB,bj.w6] at h
 |g::l,f,sig,M,h=>by simp only[dB,zaq] at h;by_cases b:g.mu.gy=3;simp only[b,bj.w6] at h;split at h;rename_i e;injection h with h;injection h with ha hb;exact⟨g,by simp,e.symm,ha.symm,hb.symm,b⟩;obtain⟨fn,a,d,c⟩:=abe (T:=l) h;exact⟨fn,by simp[a],d,c⟩;split at h;obtain⟨fn,a,d,c⟩:=abe (T:=l) h;exact⟨fn,by simp[a],d,c⟩;rename_i z i;split at i;rename_i j;exact absurd j b;cases i
theorem abf:∀{T:List ax} {f:FuncId} {sig:Nat} {M:List Dv->Option (List Dv×List C)},bj.w7 (dB T).xs f=some (sig,M)->∃fn∈T,fn.id=f/\sig=fn.mu.nq/\M=fn.MX/\fn.mu.gy=4
 |[],f,sig,M,h=>by simp[dB,bj.w7] at h
 |g::l,f,sig,M,h=>by simp only[dB,zaq] at h;by_cases b:g.mu.gy=4;simp only[b,bj.w7] at h;split at h;rename_i e;injection h with h;injection h with ha hb;exact⟨g,by simp,e.symm,ha.symm,hb.symm,b⟩;obtain⟨fn,a,d,c⟩:=abf (T:=l) h;exact⟨fn,by simp[a],d,c⟩;split at h;obtain⟨fn,a,d,c⟩:=abf (T:=l) h;exact⟨fn,by simp[a],d,c⟩;rename_i z i;split at i;rename_i j;exact absurd j b;cases i
theorem av.tok {P:Program} {T:List ax} (h:av P T):q8 P (dB T):=by refine⟨fun g M b=>?_,fun g sig M b=>?_,fun g M b=>?_,⟨fun g sig M b=>?_,fun g sig M b=>?_⟩,fun g M b=>?_,fun g M b=>?_⟩;obtain⟨d,a,c,e,f⟩:=SE b;subst c e;exact(h d a).1 f;obtain⟨d,a,c,e,f,i⟩:=abb b;subst c e f;exact(h d a).2.1 i;obtain⟨d,a,c,e,f⟩:=abd b;subst c e;exact(h d a).2.2.1 f;obtain⟨d,a,c,e,f,i⟩:=abe b;subst c e f;exact(h d a).2.2.2.1 i;obtain⟨d,a,c,e,f,i⟩:=abf b;subst c e f;exact(h d a).2.2.2.2.1 i;obtain⟨d,a,c,e,f⟩:=abc b;subst c e;exact(h d a).2.2.2.2.2.1 f;obtain⟨d,a,c,e,f⟩:=SE b;subst c;exact(h d a).2.2.2.2.2.2
def cK (P:Program) (f:FuncId) (mc:mn) (ms:List bI) (n:Nat):Bool:=
 match P.funcs[f]? with
 |some fn=>match fn.body with
  |some c=>lO P fn.ntmps c mc&&qv P fn.results.toList ms&&decide (n<=fn.ntmps)&&(fn.name != "runtime.NumGoroutine")
  |none=>false
 |none=>false
theorem G4 {P:Program} {f:FuncId} {a:mn} {ms:List bI} {n:Nat} (h:cK P f a ms n=true):bX P f=true:=by unfold cK at h;unfold bX;split at h;rename_i fn b;split at h;rename_i c hb;simp only[so] at h;simp[b,hb,h.2];cases h;cases h
theorem eJ {P:Program} {T:List ax} (e:av P T) (hm:P.follows .mixedOrders=true) {f:FuncId} {sc:bO} {ms:List bI} {args aC:aF} (a:cK P f sc.er ms args.length=true) (F:aX args.aW->Option (aX aC.aW)) (i:∀x y,F x=some y->eE aP T sc ms args aC x=some y):dV P f (ax.M ⟨f,args,[],aC,F⟩)/\bX P f=true:=by refine⟨?_,G4 a⟩;unfold cK at a;split at a;rename_i fn b;split at a;rename_i c hb;simp only[so,decide_eq_true_eq] at a;refine ay5 (T:=dB T) e.tok hm b hb a.1.1.1 a.1.1.2 fun ds rs d=>?_;obtain⟨x,y,h,g,j⟩:=ax.Gz d;subst h j;exact⟨by rw[B4];exact a.1.2,azG (i x y g)⟩;cases a;cases a
theorem Y3 {P:Program} {T:List ax} (g:av P T) (hm:P.follows .mixedOrders=true) {f:FuncId} {sc:bO} {ms:List bI} {args:aF} {mu:cR} {aC:aF} (a:cK P f sc.er ms args.length=true) (F:aX args.aW->Option (aX aC.aW)) (k:∀x y,F x=some y->Nc aP T sc ms args mu aC x=some y):BN P f mu (ax.MM ⟨f,args,mu,aC,F⟩)/\bX P f=true:=by refine⟨?_,G4 a⟩;unfold cK at a;split at a;rename_i fn d;split at a;rename_i c hb;simp only[so,decide_eq_true_eq] at a;refine avO (T:=dB T) g.tok hm d hb a.1.1.1 a.1.1.2 fun ds rs eV b=>?_;unfold ax.MM at b;rw[zak] at b;obtain⟨u7,h,e⟩:=b;obtain⟨x,y,j,i,l⟩:=ax.Gz h;subst j l;refine⟨by rw[B4];exact a.1.2,?_⟩;rw[<-e];exact azF (k x y i);cases a;cases a
abbrev iA:K×List Ty:=(.one,[.int .i64])
theorem aBQ {P:Program} {T:List ax} (k:av P T) (hm:P.follows .mixedOrders=true) {f:FuncId} {sc:bO} {ms:List bI} {b:K×List Ty} {args:aF} {mu:cR} {aC:aF} (d:cK P f sc.er ms (b::args).length=true) (F:aX (aF.aW (iA::iA::b::args))->Option (aX aC.aW)) (n:∀x y,F x=some y->Nd aP T sc ms mu.nq (b::args) aC x.1 x.2.1 x.2.2=some y):DU P f mu.nq (ax.MX ⟨f,iA::iA::b::args,mu,aC,F⟩)/\bX P f=true:=by refine⟨?_,G4 d⟩;unfold cK at d;split at d;rename_i fn i;split at d;rename_i c hb;simp only[so,decide_eq_true_eq] at d;refine aBP (T:=dB T) k.tok hm i hb d.1.1.1 d.1.1.2 fun lo len ds rs eV g=>?_;unfold ax.MX at g;rw[zak] at g;obtain⟨u7,l,j⟩:=g;obtain⟨x,y,h,m,o⟩:=ax.Gz l;subst o;obtain⟨xa,xb,xs⟩:=x;have h:dI lo::dI (lo+len)::ds=((.one,[.int .i64 xa]):Dv)::((.one,[.int .i64 xb]):Dv)::dG (b::args) xs:=h;injection h with e a;injection a with a g3;have ea:xa=((lo:Nat):Int):=(by unfold dI at e;injection e with _ e;injection e with e _;injection e with _ e;exact e.symm);have eb:xb=((lo+len:Nat):Int):=(by unfold dI at a;injection a with _ a;injection a with a _;injection a with _ a;exact a.symm);subst ea eb g3;refine⟨by rw[B4];exact d.1.2,?_⟩;rw[<-j];exact azJ (n _ y m);cases d;cases d
theorem pB {P:Program} {T:List ax} (g:av P T) (hm:P.follows .mixedOrders=true) {f:FuncId} {sc:bO} {ms:List bI} {args aC:aF} (a:cK P f sc.er ms args.length=true) (F:aX args.aW->Option (aX aC.aW)) (k:∀x y,F x=some y->n6 aP T sc ms args aC x=some y):lL P f (ax.MV ⟨f,args,[[some .aQ]],aC,F⟩)/\bX P f=true:=by refine⟨?_,G4 a⟩;unfold cK at a;split at a;rename_i fn d;split at a;rename_i c hb;simp only[so,decide_eq_true_eq] at a;refine aBz (T:=dB T) g.tok hm d hb a.1.1.1 a.1.1.2 fun ds rs out b=>?_;unfold ax.MV at b;rw[zak] at b;obtain⟨u7,h,e⟩:=b;obtain⟨x,y,j,i,l⟩:=ax.Gz h;subst j l;refine⟨by rw[B4];exact a.1.2,?_⟩;rw[<-e];exact azH (k x y i);cases a;cases a
theorem aBF {P:Program} {T:List ax} (k:av P T) (hm:P.follows .mixedOrders=true) {f:FuncId} {sc:bO} {ms:List bI} {args:aF} {mu:cR} (a:cK P f sc.er ms args.length=true) (p:u6 sc.er=true) (F:aX args.aW->Option (aX (aF.aW DF))) (q:∀x y,F x=some y->Ro aP T sc ms args mu x=some y):GF P f mu (ax.MW ⟨f,args,[some .aQ,some .aQ]::mu,DF,F⟩)/\bX P f=true:=by refine⟨?_,G4 a⟩;unfold cK at a;split at a;rename_i fn d;split at a;rename_i c hb;simp only[so,decide_eq_true_eq] at a;refine aBE (T:=dB T) k.tok hm d hb a.1.1.1 a.1.1.2 p fun ds lo len b=>?_;unfold ax.MW at b;rw[zba] at b;obtain⟨u7,m,e⟩:=b;obtain⟨x,y,o,n,r⟩:=ax.Gz m;subst o r;obtain⟨j,i,g,h⟩:=azI (q x y n);have:(j,i)=(lo,len):=(by have:=h.symm.trans e;injection this);injection this with l g2;subst l g2;exact⟨by rw[B4];exact a.1.2,g⟩;cases a;cases a
def FM:aF:=[(.agg,[.int .i64,.list [.int .i64,.int .i64]])]
def gM:aF:=[(.one,[.bool])]
def eI:cR:=[]
def rQ:aF:=[(.agg,[.int .i64,.list [.int .i64,.int .i64]]),(.one,[.int .i64])]
def I4:aF:=[(.agg,[.int .i64,.list [.int .i64,.int .i64]]),(.one,[.bool])]
def fz:aF:=[(.one,[.int .i64])]
def RY:aF:=[(.one,[.list [.int .i64]]),(.one,[.int .i64])]
def kS:aF:=[(.agg,[.list [.int .i64],.list [.int .i64],.list [.int .i64]])]
def dO:aF:=[(.one,[.list [.int .i64]])]
def km:aF:=[(.one,[.list [.int .i64]]),(.one,[.list [.int .i64]])]
def aad:aF:=[(.one,[.bool]),(.one,[.list [.int .i64]])]
def wi:cR:=[[],[some .aS]]
def f7:aF:=[(.agg,[.int .i64,.int .i64,.int .i64])]
def Dh:aF:=[(.agg,[.int .i64,.int .i64,.int .i64]),(.one,[.list [.int .i64]])]
def wj:aF:=[(.agg,[.int .i64,.int .i64,.int .i64]),(.one,[.list [.int .i64]]),(.one,[.list [.int .i64]]),(.one,[.list [.int .i64]])]
def Di:aF:=[(.agg,[.int .i64,.int .i64,.int .i64]),(.one,[.list [.int .i64]]),(.one,[.list [.int .i64]])]
def Rz:aF:=[(.agg,[.int .i64,.int .i64,.int .i64]),(.one,[.list [.int .i64]]),(.one,[.int .i64])]
def RB:aF:=[(.agg,[.int .i64,.int .i64,.int .i64]),(.one,[.int .i64])]
def RD:aF:=[(.one,[.int .i64]),(.ptr,[.int .i64]),(.ptr,[.int .i64])]
def qU:aF:=[(.agg,[.int .i64,.int .i64,.int .i64]),(.agg,[.int .i64,.list [.int .i64,.int .i64]]),(.one,[.int .i64]),(.one,[.list [.int .i64]])]
def RE:aF:=[(.agg,[.int .i64,.int .i64,.int .i64]),(.agg,[.list [.int .i64],.list [.int .i64],.list [.int .i64]])]
def Dj:aF:=[(.agg,[.int .i64,.int .i64,.int .i64]),(.agg,[.list [.int .i64],.list [.int .i64],.list [.int .i64]]),(.one,[.int .i64])]
def Nn:aF:=[(.one,[.int .i64]),(.one,[.int .i64])]
def RF:cR:=[[some .aQ,some .aQ],[],[none,none,some .aS]]
def wk:aF:=[(.one,[.list [.int .u8]])]
def tR:aF:=[(.ptr,[.list [.int .u8],.int .i64,.int .i64])]
def pA:cR:=[[some .aQ]]
def rP:aF:=[(.one,[.list [.int .u8]]),(.one,[.int .i64])]
def Ba:aF:=[(.one,[.int .i64]),(.ptr,[.list [.int .u8],.int .i64,.int .i64])]
def Dk:aF:=[(.ptr,[.list [.int .u8],.int .i64,.int .i64]),(.one,[.int .i64])]
def aae:aF:=[(.one,[.bool]),(.ptr,[.list [.int .u8],.int .i64,.int .i64])]
def RG:aF:=[(.ptr,[.list [.int .u8],.int .i64,.int .i64]),(.one,[.list [.int .i64]])]
def RH:aF:=[(.one,[.list [.int .u8]]),(.one,[.int .i64]),(.one,[.int .i64]),(.one,[.int .i64])]
def RJ:aF:=[(.ptr,[.list [.int .u8],.int .i64,.int .i64]),(.one,[.int .i64]),(.one,[.int .i64])]
def aaf:aF:=[(.agg,[.int .i64,.list [.int .i64,.int .i64]]),(.ptr,[.list [.int .u8],.int .i64,.int .i64])]
def RL:aF:=[(.agg,[.list [.int .i64],.list [.int .i64],.list [.int .i64]]),(.one,[.int .i64])]
def RM:aF:=[(.agg,[.list [.int .i64],.list [.int .i64],.list [.int .i64]]),(.one,[.list [.int .i64]])]
def wm:aF:=[(.agg,[.int .i64,.int .i64,.int .i64]),(.agg,[.list [.int .i64],.list [.int .i64],.list [.int .i64]]),(.one,[.list [.int .i64]])]
def RN:aF:=[(.agg,[.list [.int .i64],.list [.int .i64],.list [.int .i64]]),(.agg,[.list [.int .i64],.list [.int .i64],.list [.int .i64]])]
def aag:aF:=[(.one,[.list [.int .i64]]),(.one,[.list [.int .i64]]),(.one,[.bool])]
def ama:aF:=[(.one,[.int .i64]),(.one,[.int .i64]),(.agg,[.int .i64,.int .i64,.int .i64]),(.one,[.list [.int .i64]]),(.one,[.list [.int .i64]])]
def RO:cR:=[[some .aQ,some .aQ,some .aQ],[],[some .aS]]
def RP:aF:=[(.agg,[.int .i64,.int .i64,.int .i64]),(.agg,[.list [.int .i64],.list [.int .i64],.list [.int .i64]]),(.agg,[.list [.int .i64],.list [.int .i64],.list [.int .i64]]),(.one,[.list [.int .i64]])]
def wq:aF:=[(.agg,[.list [.int .i64],.list [.int .i64],.list [.int .i64]]),(.one,[.bool])]
def RQ:aF:=[(.one,[.list [.list [.int .i64],.list [.int .i64],.list [.int .i64]]])]
def aah:aF:=[(.agg,(OF 100 (.int .i64))),(.one,[.bool])]
def RR:aF:=[(.agg,(OF 100 (.int .i64))),(.one,[.list [.int .i64]])]
def mP:aF:=[(.agg,[.int .i64,.int .i64,.int .i64,.list [.list [.int .i64],.list [.int .i64],.list [.int .i64]],.list [.int .i64]])]
def Bb:aF:=[(.agg,[.int .i64,.int .i64,.int .i64,.list [.list [.int .i64],.list [.int .i64],.list [.int .i64]],.list [.int .i64]]),(.one,[.bool])]
def aai:aF:=[(.ptr,(OF 100 (.int .i64)++[.list [.int .i64],.list [.int .i64,.list [.int .i64]],.int .i64]))]
def RS:aF:=[(.ptr,(OF 100 (.int .i64)++[.list [.int .i64],.list [.int .i64,.list [.int .i64]],.int .i64])),(.one,[.int .i64])]
def Dl:aF:=[(.ptr,(OF 100 (.int .i64)++[.list [.int .i64],.list [.int .i64,.list [.int .i64]],.int .i64])),(.one,[.int .i64]),(.one,[.int .i64])]
def aaj:aF:=[(.agg,[.int .i64,.int .i64]),(.ptr,(OF 100 (.int .i64)++[.list [.int .i64],.list [.int .i64,.list [.int .i64]],.int .i64]))]
def RT:aF:=[(.ptr,(OF 100 (.int .i64)++[.list [.int .i64],.list [.int .i64,.list [.int .i64]],.int .i64])),(.agg,[.int .i64,.int .i64])]
def aak:aF:=[(.one,[.bool]),(.ptr,(OF 100 (.int .i64)++[.list [.int .i64],.list [.int .i64,.list [.int .i64]],.int .i64]))]
def Dm:aF:=[(.agg,[.int .i64,.int .i64,.int .i64,.list [.list [.int .i64],.list [.int .i64],.list [.int .i64]],.list [.int .i64]]),(.one,[.list [.int .i64,.int .i64]])]
def RU:aF:=[(.agg,[.int .i64,.int .i64,.int .i64,.list [.list [.int .i64],.list [.int .i64],.list [.int .i64]],.list [.int .i64]]),(.one,[.list [.int .i64]])]
def aal:aF:=[(.one,[.list [.int .i64,.int .i64]])]
def RW:aF:=[(.agg,[.int .i64,.int .i64,.int .i64,.list [.list [.int .i64],.list [.int .i64],.list [.int .i64]],.list [.int .i64]]),(.agg,[.list [.int .i64],.list [.int .i64],.list [.int .i64]])]
def RX:aF:=[(.agg,[.int .i64,.int .i64,.int .i64,.list [.list [.int .i64],.list [.int .i64],.list [.int .i64]],.list [.int .i64]]),(.one,[.list [.int .i64,.int .i64]]),(.one,[.int .i64])]
def aam:aF:=[(.one,[.list [.int .i64]]),(.one,[.bool])]
def aan:aF:=[(.agg,[.int .i64,.int .i64,.int .i64]),(.ptr,[.list [.int .u8],.int .i64,.int .i64])]
def RZ:aF:=[(.ptr,[.list [.int .u8],.int .i64,.int .i64]),(.agg,[.int .i64,.int .i64,.int .i64])]
def aao:aF:=[(.one,[.list [.int .i64]]),(.ptr,[.list [.int .u8],.int .i64,.int .i64])]
def R0:aF:=[(.one,[.list [.int .u8]]),(.one,[.int .i64]),(.agg,[.int .i64,.int .i64,.int .i64])]
theorem avs {X Y:Type} {f:X->Option (X⊕Y)} {r:Y} (P:Nat->X->Prop) (step:∀n x,P n x->f x=some (.inr r)\/∃m x',m<n/\f x=some (.inl x')/\P m x'): ∀n x,P n x->∀N,n<N->cL N f x=some r:=by intro n;induction n using Nat.strongRecOn with|ind n c=>intro x b N hN;cases N with|zero=>omega|succ N=>rcases step n x b with h|⟨m,x',hm,h,a⟩;simp only[cL,h];simp only[cL,h];exact c m hm x' a N (by omega)
theorem fC {α:Type} (xs:List α) (i:Nat):cV xs (i:Int)=xs[i]? :=by simp[cV]
theorem abC {n:Int} (h1: -9223372036854775808<=n) (h2:n<=9223372036854775807):IntKind.wrap .i64 n=n:=by rw[IntKind.wrap_i64];omega
theorem ez {a b:Int} (c: -9223372036854775808<=a+b:=by omega) (d:a+b<=9223372036854775807:=by omega):bC .i64 a b=a+b:=abC c d
theorem n8 {a b:Int} (c: -9223372036854775808<=a - b:=by omega) (d:a - b<=9223372036854775807:=by omega):jE .i64 a b=a - b:=abC c d
theorem bE {α β:Type} (x:α) (f:α->Option β):(some x).ab f=f x:=rfl
theorem fU {X ρ:Type} (x:X) (k:X->Option ρ):cN (some (.inl x)) k=k x:=rfl
theorem Yo {X ρ:Type} (x:ρ) (k:X->Option ρ):cN (some (.inr x):Option (X⊕ρ)) k=some x:=rfl
theorem bL {α:Type} {b:Bool} (h:b=true) (x y:α):aD b x y=x:=by rw[h];rfl
theorem aZ {α:Type} {b:Bool} (h:b=false) (x y:α):aD b x y=y:=by rw[h];rfl
theorem nl {α:Type} (l:List α):aM (ae l)=(l.length:Int):=rfl
theorem eD {a b:Int} (h:a<b:=by omega):cI a b=true:=decide_eq_true h
theorem d7 {a b:Int} (h:b<=a:=by omega):cI a b=false:=decide_eq_false (Int.not_lt.2 h)
theorem CW {a b:Int} (h:a<=b:=by omega):ic a b=true:=decide_eq_true h
theorem Ik {a b:Int} (h:b<a:=by omega):ic a b=false:=decide_eq_false (Int.not_le.2 h)
theorem tf {a b:Int} (h:a=b):bq a b=true:=by simp[bq,h]
theorem te {a b:Int} (h:a≠b:=by omega):bq a b=false:=by simp[bq,h]
theorem zg {a b:Int} (h:a≠b):jA a b=true:=by simp[jA,h]
theorem sJ {a b:Int} (h:a=b):jA a b=false:=by simp[jA,h]
theorem bR (n:Nat):bh 0 n n=some ():=by simp[bh]
theorem gT {α:Type} (xs:List α):cB xs (ae xs)=some xs:=by simp[cB,ae]
theorem fP {α:Type} (xs:List α):cg xs 0 (ae xs)=some xs:=by simp[cg,ae]
theorem zf {n dW:Nat} (h:n*dW<=gH):ki (aM n) (aM n) dW=some n:=by simp[ki,aM,h]
theorem kI {i n:Nat} (h:i<n):cM (i:Int) n=some i:=by simp[cM];omega
theorem eZ {n:Nat} (h:n<18446744073709551616:=by omega):n<aP:=h
theorem drop_cons {α:Type} {xs:List α} {i:Nat} {x:α} (h:xs[i]? =some x):xs.drop i=x::xs.drop (i+1):=by obtain⟨a,b⟩:=If.1 h;rw[zaF a,b]
theorem agX {X Y:Type} {f:X->Option (X⊕Y)} (st:Nat->X) {r:Y}:∀(n i:Nat),(∀j,i<=j->j<i+n->f (st j)=some (.inl (st (j+1))))->f (st (i+n))=some (.inr r)->∀N,n<N->cL N f (st i)=some r
 |0,i,_,a,N+1,_=>by have a:f (st i)=some (.inr r):=a;simp only[cL,a]
 |n+1,i,h1,a,N+1,hN=>by simp only[cL,h1 i (Pd i) (by omega)];exact agX st n (i+1) (fun j h3 h4=>h1 j (by omega) (by omega)) (by rw[show i+1+n=i+(n+1) by omega];exact a) N (by omega)
 |_,_,_,_,0,h=>by omega
theorem gw {X Y:Type} {f:X->Option (X⊕Y)} (st:Nat->X) {r:Y} (n:Nat) (b:∀j,j<n->f (st j)=some (.inl (st (j+1)))) (c:f (st n)=some (.inr r)) {a:X} (d:a=st 0) {N:Nat} (e:n<N):cL N f a=some r:=by subst d;exact agX st n 0 (fun j _ h=>b j (by omega)) (by rw[zat];exact c) N e
theorem avq {X Y α:Type} {f:X->Option (X⊕Y)} (es:List α) (b:Nat->X) (p:α->Bool) (d hZ:Y)
  (j:∀i a,es[i]? =some a->p a=true->f (b i)=some (.inl (b (i+1)))) (g:∀i a,es[i]? =some a->p a=false->f (b i)=some (.inr d)) (n:f (b es.length)=some (.inr hZ)) {e:X} (h:e=b 0) {N:Nat} (c:es.length<N):
  cL N f e=some (if es.all p=true then hZ else d):=by
 subst h;have m:∀(k:Nat) (i:Nat),i+k=es.length->∀N,k<N->cL N f (b i)=some (if(es.drop i).all p=true then hZ else d):=by
  intro k;induction k with
  |zero=>
   intro i hi N c;obtain⟨N,rfl⟩:∃M,N=M+1:=⟨N - 1,by omega⟩;have:i=es.length:=by omega
   subst this;simp only[cL,n,zbR,List.all_nil,if_true]
  |succ k l=>
   intro i hi N c;obtain⟨N,rfl⟩:∃M,N=M+1:=⟨N - 1,by omega⟩;obtain⟨a,ha⟩:∃a,es[i]? =some a:=⟨_,co (by omega)⟩;rw[drop_cons ha];cases hp:p a with
   |true=>
    simp only[cL,j i a ha hp,zaW,hp,zb8];exact l (i+1) (by omega) N (by omega)
   |false=>simp only[cL,g i a ha hp,zaW,hp,Bool.false_and,zaH,if_false]
 exact m es.length 0 (by omega) N c
def kN {S α:Type} (step:Nat->S->α->S):Nat->S->List α->S
 |_,s,[]=>s
 |i,s,a::as=>kN step (i+1) (step i s a) as
theorem agW {X Y α S:Type} {f:X->Option (X⊕Y)} (es:List α) (b:S->Nat->X) (I:Nat->S->Prop) (step:Nat->S->α->S) (hZ:S->Y) (h:∀i s a,es[i]? =some a->I i s->f (b s i)=some (.inl (b (step i s a) (i+1)))/\I (i+1) (step i s a)) (n:∀s,I es.length s->f (b s es.length)=some (.inr (hZ s))) {s:S} (g:I 0 s) {d:X} (hx:d=b s 0) {N:Nat} (c:es.length<N): cL N f d=some (hZ (kN step 0 s es)):=by subst hx;have m:∀(k:Nat) (i:Nat) (s:S),I i s->i+k=es.length->∀N,k<N->cL N f (b s i)=some (hZ (kN step i s (es.drop i))):=(by intro k;induction k with|zero=>intro i s hs hi N c;obtain⟨N,rfl⟩:∃M,N=M+1:=⟨N - 1,by omega⟩;have:i=es.length:=(by omega);subst this;simp only[cL,n s hs,zbR,kN]|succ k l=>intro i s hs hi N c;obtain⟨N,rfl⟩:∃M,N=M+1:=⟨N - 1,by omega⟩;obtain⟨a,ha⟩:∃a,es[i]? =some a:=⟨_,co (by omega)⟩;rw[drop_cons ha];obtain⟨e,j⟩:=h i s a ha hs;simp only[cL,e,kN];exact l (i+1) _ j (by omega) N (by omega));exact m es.length 0 s g (by omega) N c
theorem avu {α:Type} {es:List α} {k:Nat} (h:es.length<=k) (hk:k<18446744073709551616):es.length<aP:=eZ
theorem Is {α:Type} {es:List α} {i:Nat} {a:α} (h:es[i]? =some a):cI (i:Int) (aM (ae es))=true:=by have:=(If.1 h).1;exact eD (by have:=nl es;omega)
theorem Ir {α:Type} (es:List α):cI ((es.length:Nat):Int) (aM (ae es))=false:=d7 (by have:=nl es;omega)
theorem Iy {α:Type} {es:List α} {i:Nat} {a:α} (h:es[i]? =some a) (hl:es.length<=9223372036854775807):bC .i64 (i:Int) 1=((i+1:Nat):Int):=by have:=(If.1 h).1;rw[ez];omega
theorem Mx {α:Type} {es:List α} {i:Nat} {a:α} (h:es[i]? =some a):i<es.length:=(If.1 h).1
theorem S1 (n:Int) (aB9:0<=n) (aCa:n<2^63):IntKind.i64.wrap n=n:=by rw[IntKind.wrap_i64];omega
theorem UO {a b:Nat} (ha:a<2^63) (hb:b<2^63):pG .i64 (a:Int) (b:Int)=((a&&&b:Nat):Int):=(bits_nat .i64 63 (by decide) S1 a b ha hb).1
theorem axK {a b:Nat} (ha:a<2^63) (hb:b<2^63):ID .i64 (a:Int) (b:Int)=((a|||b:Nat):Int):=(bits_nat .i64 63 (by decide) S1 a b ha hb).2
theorem aAo {a k:Nat} (ha:a<2^63):Be .i64 (a:Int) (k:Int)=some ((a>>>k:Nat):Int):=by unfold Be;rw[ak (by omega)];congr 1;rw[AT,Nat.shiftRight_eq_div_pow];by_cases h:k<=64;rw[show min k (IntKind.bits .i64)=k from zbq h];norm_cast;rw[show min k (IntKind.bits .i64)=64 from Nat.min_eq_right (show 64<=k by omega)];have b:a/2^k=0:=zbf (Nat.lt_of_lt_of_le ha (zaR (by decide) (by omega)));rw[b];omega
theorem aap {k:Nat} (b:k<63):Bc .i64 1 (k:Int)=some ((2^k:Nat):Int):=by unfold Bc;rw[ak (by omega)];congr 1;rw[AT,show min k (IntKind.bits .i64)=k from zbq (by simp[IntKind.bits];omega),zbX];have:(2:Int)^k=((2^k:Nat):Int):=(by norm_cast);rw[this];refine S1 _ (Int.natCast_nonneg _) ?_;have:=zby (a:=2) (by decide) b;exact_mod_cast this
theorem aoA {a k:Nat} (ha:a<2^63):bq (pG .i64 ((a>>>k:Nat):Int) 1) 0= !a.testBit k:=by have b:a>>>k<2^63:=Nat.lt_of_le_of_lt (Nat.shiftRight_le a k) ha;rw[show(1:Int)=((1:Nat):Int) from rfl,UO b (by decide)];rw[Nat.testBit,zbr];unfold bq;have:1&&&(a>>>k)<2:=(by rw[zbr];exact Nat.and_lt_two_pow (n:=1) _ (by decide));rcases zaP 0 (1&&&a>>>k) with h|h;have:1&&&a>>>k=1:=(by omega);rw[this];rfl;have:1&&&a>>>k=0:=(by omega);rw[this];rfl
theorem jc {z:Int} (h:0<=z):∃n:Nat,z=(n:Int):=⟨z.toNat,by omega⟩
theorem agM {α:Type} (l:List α) (k:Nat) (x:α):ae (be l k x)=ae l:=by simp[ae,be]
theorem avk {α:Type} (l r:List α):ae (d6 l r)=aw (ae l) (ae r):=by simp[ae,d6,aw]
theorem Io {α:Type} (n:Nat) (x:α):ae (cj n x)=n:=by simp[ae,cj]
theorem w9 {n k:Nat} (h:n*k<=gH):lR n k=some ():=ah h
theorem mw (k:Nat):aw 0 k=k:=by simp[aw]
theorem aBJ {α:Type} (x:α):cg [x] 0 1=some [x]:=rfl
theorem AK (a b:Int):iw a b=min a b:=by unfold iw;split<;>omega
theorem QG (a b:Int):nX a b=max a b:=by unfold nX;split<;>omega
theorem axe (a b:Int):jA a b= !decide (a=b):=by by_cases h:a=b<;>simp[jA,h]
def kOk (k:Int):Prop:=0<=k/\k<=1048576
instance (k:Int):Decidable (kOk k):=inferInstanceAs (Decidable (0<=k/\k<=1048576))
theorem axn:dz true=false:=rfl
theorem anv {α:Type} {xs:List α} {n:Nat} (h:xs.length=n):cg xs 0 n=some xs:=by subst h;exact fP xs
theorem xJ {a b:Nat} (h:a=b):qT a b=some ():=ah h
theorem lU {n m:Nat} (h:n=m):bh 0 n m=some ():=by subst h;exact bR n
theorem arz {α:Type} {l:List α} {i:Nat} {a b:α} (h:l[i]? =some a):(l.set i b)[i]? =some b:=zbk (Mx h)
theorem afr {α:Type} {l:List α} {i:Nat} {a b:α} (h:l[i]? =some a):bW (be l i b) i=some b:=arz h
theorem aAi {α:Type} (l:List α) (i:Nat) (a b:α):be (be l i a) i b=be l i b:=by simp[be,List.set_set]

def afp (r c:Nat) (M:Nat->Nat->Int):U:=(zal (r*c)).map fun n=>M (n/c) (n%c)
def ofD (c:Nat) (l:U):Nat->Nat->Int:=fun i j=>l.getD (i*c+j) 0
theorem agY {i n:Nat} (h:i<n):cI (i:Int) (n:Int)=true:=eD
theorem YQ {i n:Nat} (h:n<=i):cI (i:Int) (n:Int)=false:=d7
theorem wQ {i:Nat} (h:i<=1048577:=by omega):bC .i64 (i:Int) 1=((i+1:Nat):Int):=by rw[ez];omega
def sK (p:Int):Prop:=2<=p/\p<=1000003
instance (p:Int):Decidable (sK p):=inferInstanceAs (Decidable (2<=p/\p<=1000003))
def vM (p x:Int):Prop:=0<=x/\x<p
instance (p x:Int):Decidable (vM p x):=inferInstanceAs (Decidable (0<=x/\x<p))
theorem VJ {p:Int} (hp:sK p) (a:Int):vM p (a%p):=⟨zaj _ (by have:=hp.1;omega),zaa _ (by have:=hp.1;omega)⟩
theorem vM.le {p x:Int} (h:vM p x):0<=x/\x<=p:=⟨h.1,Int.le_of_lt h.2⟩
theorem vM.s {p x:Int} (hp:sK p) (h:vM p x):0<=x/\x<=1000003000000:=⟨h.1,by have:=h.2;have:=hp.2;omega⟩
def uQ (p:Int) (r c:Nat) (M:Nat->Nat->Int):Prop:=∀i,i<r->∀j,j<c->vM p (M i j)
def wR (p:Int) (l:U):Prop:=∀x∈l,vM p x
instance (p:Int) (l:U):Decidable (wR p l):=inferInstanceAs (Decidable (∀x∈l,vM p x))
def Fl (x:Int×Int×U):Prop:=(0<=x.1/\x.1<=4096)/\(0<=x.2.1/\x.2.1<=4096)/\(x.2.2.length:Int)=x.1*x.2.1/\x.2.2.length<=1048576
instance (x:Int×Int×U):Decidable (Fl x):=by unfold Fl;infer_instance
def sd (n:Int) (e:Int×Int):Bool:=decide ((0<=e.1/\e.1<=n - 1)/\(0<=e.2/\e.2<=n - 1))
def fq (n:Int) (es:List (Int×Int)):Bool:=decide (0<=n/\n<=10)&&decide (es.length<=10)&&es.all (sd n)
def BA:Int×List (Int×Int)->Option Bool:=fun((n,es):Int×List (Int×Int))=>some (fq n es)
def uq (k:Int) (i:Nat) (cW:List (Int×Int)) (e:Int×Int):List (Int×Int):=if(i:Int)=k then cW else cW++[e]
def qx (k:Int) (l:List (Int×Int)):List (Int×Int):=kN (uq k) 0 [] l
def Hk (n:Int) (l:List (Int×Int)) (k:Int):(Int×List (Int×Int))×Bool:=if fq n l=true/\0<=k/\k<l.length then((n,qx k l),true) else((0,[]),false)
def Bz:(Int×List (Int×Int))×Int->Option ((Int×List (Int×Int))×Bool):=fun(((n,l),k):(Int×List (Int×Int))×Int)=>if l.length<=1048576 then some (Hk n l k) else none
def To (NN:Nat):(Int×(List (Int×Int)))->(Option Bool):=
 (fun(i0,l1)=>
 aD (cI i0 (0:Int))
 (some false)
 (aD (cI (10:Int) i0)
 (some false)
 (aD (cI (10:Int) (aM (ae l1)))
 (some false)
 (cN (cL NN (fun((l2,i3,i4),i5,l6)=>
 aD (cI i4 i3)
 ((cV l2 i4).ab (fun(i7,i8)=>
 aD (cI i7 (0:Int))
 (some (IT (IT false)))
 (aD (cI i8 (0:Int))
 (some (IT (IT false)))
 (aD (ic i5 i7)
 (some (IT (IT false)))
 (aD (ic i5 i8)
 (some (IT (IT false)))
 (some (wt ((l2,i3,bC .i64 i4 1),i5,l6))))))))
 (some (IT (wt ()))))
 ((l1,aM (ae l1),(0:Int)),i0,l1))
 (fun _=>
 some true)))))
def Tl (NN:Nat):((Int×(List (Int×Int)))×Int)->(Option ((Int×(List (Int×Int)))×Bool)):=
 (fun((i0,l1),i2)=>
 (BA (i0,l1)).ab (fun b3=>
 aD (dz b3)
 (some (((0:Int),([]:List (Int×Int))),false))
 (aD (cI i2 (0:Int))
 (some (((0:Int),([]:List (Int×Int))),false))
 (aD (ic (aM (ae l1)) i2)
 (some (((0:Int),([]:List (Int×Int))),false))
 (cN ((bh 0 0 (ae (([]:List (Int×Int))))).ab (fun _=>
 (bh 0 0 (ae (([]:List (Int×Int))))).ab (fun _=>
 cL NN (fun((i4,l5,i6,i7),i8,i9,cf,eC)=>
 aD (cI i7 i6)
 ((cV l5 i7).ab (fun(e9,gm)=>
 aD (jA i7 i4)
 (aq eC (
 (cg (((e9,gm)::[])) 0 1).ab (fun dj=>
 (lR (aw (ae eC) (ae dj)) 16).ab (fun _=>
 aq cf (
 (bh 0 (aw (ae eC) (ae dj)) (ae (d6 eC dj))).ab (fun _=>
 some (wt ((i4,l5,i6,bC .i64 i7 1),i8,i9,cf,d6 eC dj))))))))
 (aq cf (
 aq eC (
 some (wt ((i4,l5,i6,bC .i64 i7 1),i8,i9,cf,eC)))))))
 ((aq cf (
 aq eC (
 some (wt (i8,i9,cf,eC))))).ab (fun eQ=>
 some (IT eQ))))
 ((i2,l1,aM (ae l1),(0:Int)),(0:Int),i0,([]:List (Int×Int)),([]:List (Int×Int))))))
 (fun(fy,eP,eG,fE)=>
 (cB fE (ae fE)).ab (fun iu=>
 some ((eP,iu),true))))))))
def C8 (n:Int):List (Int×Int)->Unit⊕Bool
 |[]=>.inl ()
 |e::es=>if sd n e=true then C8 n es else .inr false
theorem azr (n:Int) (es:List (Int×Int)):C8 n es=if es.all (sd n)=true then .inl () else .inr false:=by induction es with|nil=>rfl|cons e es b=>simp only[C8];by_cases h:sd n e=true;have a:(e::es).all (sd n)=es.all (sd n):=(by simp[h]);rw[ah h,b,a];have a:(e::es).all (sd n)=false:=(by simp[h]);rw[ak h,a];rfl
theorem aqI (x:Int×List (Int×Int)) (y:Bool) (h:BA x=some y):To aP x=some y:=by obtain⟨n,es⟩:=x;rw[<-h];simp only[BA,To,fq];by_cases l:n<0;rw[bL (by simp[cI,l])];simp;omega;rw[aZ (by simp[cI];omega)];by_cases o:10<n;rw[bL (by simp[cI,o])];simp;omega;rw[aZ (by simp[cI];omega)];by_cases b:es.length<=10;rw[aZ (d7 (by have:=nl es;omega))];rw[avs (r:=C8 n es) (fun k s=>∃(i:Nat) (j:Int),j=(i:Int)/\i<=es.length/\k=es.length - i/\C8 n es=C8 n (es.drop i)/\s=((es,aM (ae es),j),n,es)) ?_ es.length _ ⟨0,0,rfl,by omega,by omega,by simp,rfl⟩ aP eZ];rw[azr];by_cases a:es.all (sd n)=true;rw[ah a,fU];simp[b];exact⟨by omega,by simpa using a⟩;rw[ak a,Yo];simp[b];intro _ _;simpa using a;rintro k s ⟨i,_,rfl,hi,rfl,hr,rfl⟩;simp only;by_cases g:i<es.length;obtain⟨e,c⟩:∃e,es[i]? =some e:=⟨_,co g⟩;obtain⟨u,v⟩:=e;have hd:=drop_cons c;rw[bL (eD (by have:=nl es;omega)),fC,c,bE];rw[hr,hd,C8];simp only;by_cases m:u<0;left;rw[bL (by simp[cI,m]),ak (by simp[sd];omega)];rw[aZ (by simp[cI];omega)];by_cases f:v<0;left;rw[bL (by simp[cI,f]),ak (by simp[sd];omega)];rw[aZ (by simp[cI];omega)];by_cases d:n<=u;left;rw[bL (by simp[ic,d]),ak (by simp[sd];omega)];rw[aZ (by simp[ic];omega)];by_cases p:n<=v;left;rw[bL (by simp[ic,p]),ak (by simp[sd];omega)];rw[aZ (by simp[ic];omega)];right;refine⟨es.length - (i+1),((es,aM (ae es),((i+1:Nat):Int)),n,es),by omega,?_,i+1,_,rfl,by omega,rfl,?_,rfl⟩;rw[ez];rfl;rw[ah (by simp[sd];omega)];left;have q:i=es.length:=(by omega);subst q;rw[aZ (d7 (by have:=nl es;omega)),hr];simp[C8];rw[bL (eD (by have:=nl es;omega))];simp[b]
theorem ae9 {S α:Type} (step:Nat->S->α->S) (I:Nat->S->Prop):∀(l:List α) (i:Nat) (s:S),I i s->(∀j s a,I j s->a∈l->I (j+1) (step j s a))->I (i+l.length) (kN step i s l)
 |[],i,s,h,_=>h
 |a::l,i,s,h,hs=>by have:=ae9 step I l (i+1) (step i s a) (hs i s a h (by simp)) (fun j s b hj hb=>hs j s b hj (by simp[hb]));rw[IS,show i+(l.length+1)=i+1+l.length by omega];exact this
theorem apv (k:Int) (l:List (Int×Int)):(qx k l).length<=l.length:=by have:=ae9 (uq k) (fun i s=>s.length<=i) l 0 [] (by simp) (fun j s a h _=>by unfold uq;split<;>(try simp only[Pe,IS,zax])<;>omega);rwa[zat] at this
theorem adu {k:Int} {i:Nat} {a:List (Int×Int)} {e:Int×Int} (h:(i:Int)=k):uq k i a e=a:=ah h
theorem adt {k:Int} {i:Nat} {a:List (Int×Int)} {e:Int×Int} (h:(i:Int)≠k):uq k i a e=a++[e]:=ak h
theorem aqG (x:(Int×List (Int×Int))×Int) (y:(Int×List (Int×Int))×Bool) (h:Bz x=some y):Tl aP x=some y:=by obtain⟨⟨n,l⟩,k⟩:=x;simp only[Bz] at h;split at h;rename_i hl;rw[<-h];have hn:=nl l;simp only[Tl,BA,bR,bE,aBJ,aq];unfold Hk;by_cases d:fq n l=true;rw[aZ (by rw[d];rfl)];by_cases b:k<0;rw[bL (eD b),ak (by omega)];rw[aZ d7];by_cases hk2:(l.length:Int)<=k;rw[bL CW,ak (by omega)];rw[aZ Ik,ah ⟨d,by omega,by omega⟩];rw[show bh 0 0 (ae ([]:List (Int×Int)))=some () from rfl,bE,bE];rw[agW l (fun a i=>((k,l,aM (ae l),(i:Int)),(0:Int),n,([]:List (Int×Int)),a)) (fun i a=>a.length<=i) (uq k) (fun a=>wt ((0:Int),n,([]:List (Int×Int)),a)) ?_ ?_ (s:=[]) (by simp) ?_ eZ];rw[fU];simp only[gT,bE];rfl;rintro i a ⟨u,v⟩ c e;have:=Mx c;refine⟨?_,by unfold uq;split<;>(try simp only[Pe,IS,zax])<;>omega⟩;simp only;rw[bL (Is c),fC,c,bE,Iy c (by omega)];by_cases b:(i:Int)=k;rw[aZ (sJ b),adu b];rw[bL (zg b),adt b,w9 (by simp only[aw,ae,gH,IS,zax];omega),bE,avk,bR,bE];rfl;intro a e;simp only;rw[aZ (Ir l)];rfl;rw[bL (by rw[Bool.eq_false_iff.2 d];rfl),ak (fun h=>d h.1)];cases h
def wZ (n:Int) (i:Nat):Bool:=decide ((i:Int)*i<=n)&&decide (n%(i:Int)=0)
def kg (n:Int):Bool:=decide (2<=n/\n<=1000003)&& !((zbc 2 999).any (wZ n))
def BB:Int->Option Bool:=fun(n:Int)=>some (kg n)
def inB (m:Int) (v:Int):Bool:=decide (0<=v/\v<m)
def Ri (m:Int) (l:U):Bool:=l.all (inB m)
def Tp (NN:Nat):Int->(Option Bool):=
 (fun i0=>
 aD (cI i0 (2:Int))
 (some false)
 (aD (cI (1000003:Int) i0)
 (some false)
 (cN (cL NN (fun(i1,i2)=>
 aD (ic (gY .i64 i2 i2) i1)
 ((nj i1 i2).ab (fun i3=>
 aD (bq i3 (0:Int))
 (some (IT (IT false)))
 (some (wt (i1,bC .i64 i2 1)))))
 (some (IT (wt ()))))
 (i0,(2:Int)))
 (fun _=>
 some true))))
theorem tK {a b:Int} (c: -9223372036854775808<=a*b:=by omega) (d:a*b<=9223372036854775807:=by omega):gY .i64 a b=a*b:=abC c d
theorem ZG {n:Int} {i:Nat} (hn:0<=n:=by omega) (hi:0<i:=by omega):nj n (i:Int)=some (n%(i:Int)):=by unfold nj;rw[ak (by omega),Int.tmod_eq_emod_of_nonneg hn]
theorem aaN {i j:Nat} (h:i<=j):(i:Int)*i<=(j:Int)*j:=by have:=zb5 h h;exact_mod_cast this
theorem apL {X Y:Type} {f:X->Option (X⊕(Y⊕Bool))} (n:Int) (a:Nat->X) (r:Y) (hn:n<=1000003)
  (l:∀i:Nat,2<=i->i<=1001->(i:Int)*i<=n->n%(i:Int)=0->f (a i)=some (.inr (.inr false)))
  (k:∀i:Nat,2<=i->i<=1001->(i:Int)*i<=n->n%(i:Int)≠0->f (a i)=some (.inl (a (i+1))))
  (e:∀i:Nat,2<=i->i<=1001->¬(i:Int)*i<=n->f (a i)=some (.inr (.inl r))) {c:X} (hx:c=a 2):
  cL aP f c=some (if(zbc 2 999).any (wZ n)=true then .inr false else .inl r):=by
 subst hx;have o:∀(d i:Nat),2<=i->i+d=1001->∀N,d<N->cL N f (a i)=some (if(zbc i d).any (wZ n)=true then .inr false else .inl r):=by
  intro d;induction d with
  |zero=>
   intro i hi hd N g;obtain⟨N,rfl⟩:∃M,N=M+1:=⟨N - 1,by omega⟩;have:i=1001:=by omega
   subst this;rw[cL,e 1001 (by omega) (by omega) (by omega)];rfl
  |succ d m=>
   intro i hi hd N g;obtain⟨N,rfl⟩:∃M,N=M+1:=⟨N - 1,by omega⟩;rw[List.range'_succ,zbG];by_cases b:(i:Int)*i<=n
   ·by_cases hm:n%(i:Int)=0
    ·rw[cL,l i hi (by omega) b hm];simp[wZ,b,hm]
    ·rw[cL,k i hi (by omega) b hm];simp only
     rw[m (i+1) (by omega) (by omega) N (by omega),show wZ n i=false by simp[wZ,hm],zbH]
   ·rw[cL,e i hi (by omega) b];have:(zbc (i+1) d).any (wZ n)=false:=by
     rw[zbM];intro j hj;have:=(List.mem_range'_1.1 hj).1;have:=aaN (show i<=j by omega);simp only[wZ,so,decide_eq_true_eq,not_and];intro h;omega
    simp only
    rw[this];simp[wZ,b]
 exact o 999 2 (by omega) (by omega) aP eZ
theorem aaO {i:Nat} (h:i<=1001):0<=(i:Int)*i/\(i:Int)*i<=1002001:=by have h1:=aaN h;have h0:=aaN (zci i);omega
theorem aqJ (x:Int) (y:Bool) (h:BB x=some y):Tp aP x=some y:=by rw[<-h];simp only[BB,Tp];by_cases b:x<2;rw[bL (eD b),kg,decide_eq_false (by omega)];rfl;rw[aZ d7];by_cases hx:1000003<x;rw[bL (eD hx),kg,decide_eq_false (by omega)];rfl;rw[aZ d7];rw[apL x (fun i=>(x,(i:Int))) () (by omega) ?_ ?_ ?_ ?_];have hr:(2<=x/\x<=1000003):=(by omega);by_cases hd:(zbc 2 999).any (wZ x)=true;rw[ah hd,Yo,kg,hd];simp;rw[ak hd,fU,kg];simp[hd,hr];(all_goals try simp only);intro i b hi a hm;have hs:=aaO hi;rw[tK,bL (CW a),ZG,bE,bL (tf hm)];intro i b hi a hm;have hs:=aaO hi;rw[tK,bL (CW a),ZG,bE,aZ (te hm),ez];rfl;intro i b hi a;have hs:=aaO hi;rw[tK,aZ Ik];rfl
theorem me {m:Int} (h:kg m=true):2<=m/\m<=1000003:=by simp only[kg,so,decide_eq_true_eq] at h;exact h.1
def fF:U->Int
 |[]=>1
 |x::l=>x*fF l
def Kp (vV:Int) (_:Nat) (a x:Int):Int:=min (a*x) (vV+1)
def acC (vV:Int) (l:U):Int:=kN (Kp vV) 0 1 l
theorem aiL {a x A B:Int} (e:0<=a) (c:a<=A) (b:0<=x) (d:x<=B):0<=a*x/\a*x<=A*B:= ⟨za4 e b,zav c d b (by omega)⟩
theorem M3:∀{l:U},(∀x∈l,1<=x)->1<=fF l
 |[],_=>by simp[fF]
 |x::l,h=>by have a:=h x zaz;have b:=M3 (l:=l) (fun x hx=>h x (zao _ hx));have:=zav a b (by omega) (by omega);simpa[fF] using this
theorem acD {b:Int} (d:0<=b):∀(l:U) (i:Nat) (a:Int),(∀x∈l,1<=x)->1<=a->a<=b+1->kN (Kp b) i a l=min (a*fF l) (b+1)
 |[],i,a,_,_,h2=>by simp only[kN,fF,zbB];omega
 |x::l,i,a,h,h1,h2=>by have hx:=h x zaz;have hp:=M3 (l:=l) (fun x hx=>h x (zao _ hx));have xj:=zav h1 hx (by omega) (by omega);rw[kN,acD d l (i+1) _ (fun x hx=>h x (zao _ hx)) (by unfold Kp;omega) (by unfold Kp;omega),fF,<-zaX];unfold Kp;generalize a*x=c at*;by_cases f:c<=b+1;rw[zbY f];have e:min c (b+1)=b+1:=(by omega);rw[e];have k1:=zam hp (show 0<=b+1 by omega);have k2:=zam hp (show 0<=c by omega);omega
def bA (l:U) (v:Int):Nat:=l.findIdx fun a=>decide (a=v)
def tg (l:U) (v:Int):Int:=if bA l v<l.length then(bA l v:Int) else -1
def pF:U×Int->Option Bool:=fun(x:U×Int)=>if x.1.length<=1048576 then some (decide (x.2∈x.1)) else none
def Kk (L D:U) (j:Nat):Prop:=(0<=L.getD j 0/\L.getD j 0<=99)/\(1<=D.getD j 0/\D.getD j 0<=8)/\L.getD j 0∉L.take j
instance (L D:U) (j:Nat):Decidable (Kk L D j):=by unfold Kk;infer_instance
def mz (L D:U):Bool:=decide (L.length<=12)&&(decide (L.length=D.length)&&decide (∀j,j<L.length->Kk L D j))
def iF (L D:U):Int:=if mz L D=true/\fF D<=4096 then fF D else -1
def abL:U×U×U->Option Int:=fun(x:U×U×U)=>if x.1.length<=1048576/\x.2.1.length<=1048576 then some (iF x.1 x.2.1) else none
def zB:U×U×U->Option Int:=abL
def Vg (m:Int) (D:U) (R:List U) (j:Nat):Prop:=((R.getD j []).length:Int)=D.getD j 0/\Ri m (R.getD j [])=true
instance (m:Int) (D:U) (R:List U) (j:Nat):Decidable (Vg m D R j):=by unfold Vg;infer_instance
def Vf (x:(U×U×U)×Int×List U):Bool:=
 decide (0<=iF x.1.1 x.1.2.1)&&(decide (1<=x.2.1/\x.2.1<=12)&&(decide (x.2.2.length=x.1.2.1.length)&&decide (∀j,j<x.2.2.length->Vg x.2.1 x.1.2.1 x.2.2 j)))
def OC (x:(U×U×U)×Int×List U):Prop:=(x.1.1.length<=1048576/\x.1.2.1.length<=1048576)/\x.2.2.length<=1048576/\∀l∈x.2.2,l.length<=1048576
instance (x:(U×U×U)×Int×List U):Decidable (OC x):=by unfold OC;infer_instance
def TR (NN:Nat):(U×Int)->(Option Bool):=
 (fun(l0,i1)=>
 cN (cL NN (fun(i2,l3,i4,i5)=>
 aD (cI i5 i4)
 ((cV l3 i5).ab (fun i6=>
 aD (bq i2 i6)
 (some (IT (IT true)))
 (some (wt (i2,l3,i4,bC .i64 i5 1)))))
 (some (IT (wt ()))))
 (i1,l0,aM (ae l0),(0:Int)))
 (fun _=>
 some false))
def TC (NN:Nat):(U×(U×U))->(Option Int):=
 (fun(l0,l1,l2)=>
 aD (cI (12:Int) (aM (ae l0)))
 (some ((-1:Int)))
 (aD (jA (aM (ae l0)) (aM (ae l1)))
 (some ((-1:Int)))
 (cN (cL NN (fun((i3,l4,i5,i6),l7,l8,l9)=>
 aD (cI i6 i5)
 ((cV l4 i6).ab (fun gd=>
 aD (cI gd (0:Int))
 (some (IT (IT ((-1:Int)))))
 (aD (cI (99:Int) gd)
 (some (IT (IT ((-1:Int)))))
 ((jg (0:Int) i6 (ae l7)).ab (fun(mJ,pZ)=>
 (pF (fG l7 mJ pZ,gd)).ab (fun UU=>
 aD (UU)
 (some (IT (IT ((-1:Int)))))
 ((cV l8 i6).ab (fun ft=>
 aD (cI ft (1:Int))
 (some (IT (IT ((-1:Int)))))
 (aD (cI (8:Int) ft)
 (some (IT (IT ((-1:Int)))))
 (aD (cI (4096:Int) (gY .i64 i3 ft))
 (some (IT (IT ((-1:Int)))))
 (some (wt ((gY .i64 i3 ft,l4,i5,bC .i64 i6 1),l7,l8,l9)))))))))))))
 (some (IT (wt i3))))
 (((1:Int),l0,aM (ae l0),(0:Int)),l0,l1,l2))
 (fun jO=>
 some jO))))
theorem aa3 (P:Nat->Prop) [DecidablePred P]:∀c:Nat,∃n,n<=c/\(∀j,j<n->P j)/\(n=c\/¬P n)
 |0=>⟨0,Pd 0,fun j hj=>absurd hj (zbZ j),.inl rfl⟩
 |c+1=>by obtain⟨n,h1,b,a⟩:=aa3 P c;by_cases h:P n;rcases a with a|a;subst a;refine⟨n+1,Pd _,fun j hj=>?_,.inl rfl⟩;by_cases d:j=n;subst d;exact h;exact b j (by omega);exact absurd h a;exact⟨n,by omega,b,.inr h⟩
theorem getD_some {α:Type} {l:List α} {j:Nat} (d:α) (h:j<l.length):l[j]? =some (l.getD j d):=by simp[za7,h]
theorem QE {α:Type} {l:List α} {j:Nat} (h:j<l.length):cI (j:Int) (aM (ae l))=true:=agY h
theorem MZ {l:U} {v:Int} {j:Nat} (h:j<bA l v):l[j]? ≠some v:=by intro e;have hj:j<l.length:=(If.1 e).1;have:=List.not_of_lt_findIdx h;rw[co hj] at e;simp[zbs e] at this
theorem MY {l:U} {v:Int} (h:bA l v<l.length):l[bA l v]? =some v:=by have:=List.findIdx_getElem (w:=h);rw[co h];exact congrArg some (of_decide_eq_true this)
theorem Q9 (l:U) (v:Int):bA l v<=l.length:=List.findIdx_le_length
theorem arj (l:U) (v:Int):ic 0 (tg l v)=decide (v∈l):=by unfold tg ic;by_cases h:bA l v<l.length;rw[ah h,decide_eq_true (by omega),decide_eq_true];exact zaw (MY h);rw[ak h,decide_eq_false (by omega),decide_eq_false];intro hm;obtain⟨i,hi,e⟩:=zaS.1 hm;have:=Q9 l v;exact MZ (show i<bA l v by omega) (by rw[co hi,e])
theorem aqV (x:U×Int) (y:Bool) (h:pF x=some y):TR aP x=some y:=by
 obtain⟨l,v⟩:=x;simp only[pF] at h;split at h
 ·rename_i hl;rw[<-h];simp only[TR];have hp:=Q9 l v;rw[gw (fun i=>(v,l,aM (ae l),(i:Int))) (r:=if bA l v<l.length then IT true else wt ()) (bA l v) ?_ ?_ ?_ eZ]
  ·rw[<-arj l v];unfold tg ic;by_cases h:bA l v<l.length
   ·rw[ah h,ah h,decide_eq_true (by omega)];rfl
   ·rw[ak h,ak h];rfl
  ·intro j hj;simp only
   have a:j<l.length:=by omega
   rw[bL (QE a),fC,getD_some 0 a,bE,aZ (te (fun e=>MZ hj (by rw[getD_some 0 a,e])))];simp only[wQ (show j<=1048577 by omega)]
  ·simp only
   by_cases h:bA l v<l.length
   ·rw[ah h,bL (QE h),fC,MY h,bE,bL (tf rfl)]
   ·rw[ak h,aZ (show cI _ (aM (ae l))=false from YQ (by show l.length<=_;omega))]
  ·rfl
 ·cases h
theorem aax {n m:Nat} (h:n<=m):jg 0 (n:Int) m=some (0,n):=by unfold jg;rw[ah ⟨by omega,by omega,by omega⟩];simp
theorem amn (l:U) (n:Nat):fG l 0 n=l.take n:=rfl
theorem mA {L D:U} (h:mz L D=true):L.length<=12/\L.length=D.length/\∀j,j<L.length->Kk L D j:=by simp only[mz,so,decide_eq_true_eq] at h;exact h
theorem wS {L D:U} (h:mz L D=true):∀x∈D,1<=x/\x<=8:=by obtain⟨_,h2,b⟩:=mA h;intro x hx;obtain⟨i,hi,e⟩:=zaS.1 hx;have:=(b i (by omega)).2.1;have a:=getD_some 0 hi;rw[co hi,e] at a;rw[<-zbs a] at this;exact this
theorem ajV:∀(l:U) (x:Int),fF (l++[x])=fF l*x
 |[],x=>by simp[fF]
 |a::l,x=>by simp[fF,ajV l x,zaX]
theorem ajU:∀(l m:U),fF (l++m)=fF l*fF m
 |[],m=>by simp[fF]
 |a::l,m=>by simp[fF,ajU l m,zaX]
theorem aBb {D:U} {j:Nat} (h:j<D.length):D.take (j+1)=D.take j++[D.getD j 0]:=by rw[zaM,getD_some 0 h];rfl
theorem IM {D:U} {j:Nat} (h:j<D.length):fF (D.take (j+1))=fF (D.take j)*D.getD j 0:=by rw[aBb h,ajV]
theorem ay2 {D:U} (h:∀x∈D,1<=x) (j:Nat):fF (D.take j)<=fF D:=by
 have e:fF D=fF (D.take j)*fF (D.drop j):=by rw[<-ajU,List.take_append_drop]
 have h1:=M3 (l:=D.take j) fun x hx=>h x (zaT hx);have a:=M3 (l:=D.drop j) fun x hx=>h x (zaU hx);have:=zam a (show 0<=fF (D.take j) by omega);rw[e];omega
def UT (L D:U) (j:Nat):Prop:=Kk L D j/\fF (D.take (j+1))<=4096
instance (L D:U) (j:Nat):Decidable (UT L D j):=by unfold UT;infer_instance
theorem aqN (x:U×U×U) (y:Int) (h:zB x=some y):TC aP x=some y:=by
 obtain⟨L,D,T⟩:=x;simp only[zB,abL] at h;split at h
 ·rename_i hl;rw[<-h];simp only[TC,iF];by_cases m:L.length<=12
  rotate_left
  ·rw[bL (eD (by rw[nl];omega)),ak (fun q=>m (mA q.1).1)]
  rw[aZ (d7 (by rw[nl];omega))];by_cases d:L.length=D.length
  rotate_left
  ·rw[bL (zg (by rw[nl,nl];omega)),ak (fun q=>d (mA q.1).2.1)]
  rw[aZ (sJ (by rw[nl,nl];omega))];obtain⟨n,hn,c,l⟩:=aa3 (UT L D) L.length;have f:∀j,j<=n->1<=fF (D.take j)/\fF (D.take j)<=4096:=by
   intro j hj;constructor
   ·apply M3;intro x hx;obtain⟨i,hi,e⟩:=zaS.1 hx;rw[zan] at hi;have hp:=(c i (by omega)).1.2.1;have o:=getD_some 0 (show i<D.length by omega);rw[List.getElem_take] at e;rw[co (by omega),e] at o;rw[<-zbs o] at hp;exact hp.1
   ·cases j with
    |zero=>simp[fF]
    |succ j=>exact(c j (by omega)).2
  rw[gw (fun i=>((fF (D.take i),L,aM (ae L),(i:Int)),L,D,T)) (r:=if n<L.length then IT (-1) else wt (fF D)) n ?_ ?_ ?_ eZ]
  ·by_cases h:n<L.length
   ·rw[ah h,ak]
    ·rfl
    ·intro q;refine l.resolve_left (by omega) ⟨(mA q.1).2.2 n h,?_⟩;have:=ay2 (fun x hx=>(wS q.1 x hx).1) (n+1);have:=q.2;omega
   ·have e:n=L.length:=by omega
    have hp:=(f n (Pd n)).2;rw[e,d,zbg] at hp;rw[ak h,ah]
    ·rfl
    ·refine⟨?_,hp⟩;simp only[mz,so,decide_eq_true_eq];exact⟨m,d,fun j hj=>(c j (by omega)).1⟩
  ·intro j hj;simp only
   obtain⟨⟨a1,w,b⟩,g⟩:=c j hj;have k:j<L.length:=by omega
   rw[bL (QE k),fC,getD_some 0 k,bE,aZ d7,aZ d7,aax (show j<=ae L by show j<=L.length;omega),bE];simp only[amn];rw[show pF (L.take j,L.getD j 0)=some (decide (L.getD j 0∈L.take j)) from ah (by rw[zan];omega),bE,aZ (decide_eq_false b),fC,getD_some 0 (show j<D.length by omega),bE,aZ d7,aZ d7]
   have hb:=f j (by omega);obtain⟨p,E⟩:=aiL (a:=fF (D.take j)) (x:=D.getD j 0) (A:=4096) (B:=8) (by omega) hb.2 (by omega) w.2;rw[IM (by omega)] at g;rw[tK,aZ (d7 g),<-IM (by omega)];simp only[wQ (show j<=1048577 by omega)]
  ·simp only
   by_cases h:n<L.length
   ·have u:=l.resolve_left (by omega);rw[ah h,bL (QE h),fC,getD_some 0 h,bE];by_cases v:L.getD n 0<0
    ·rw[bL (eD v)]
    rw[aZ d7];by_cases t:99<L.getD n 0
    ·rw[bL (eD t)]
    rw[aZ d7,aax (show n<=ae L by show n<=L.length;omega),bE];simp only[amn];rw[show pF (L.take n,L.getD n 0)=some (decide (L.getD n 0∈L.take n)) from ah (by rw[zan];omega),bE]
    by_cases b:L.getD n 0∈L.take n
    ·rw[bL (decide_eq_true b)]
    rw[aZ (decide_eq_false b),fC,getD_some 0 (show n<D.length by omega),bE];by_cases s:D.getD n 0<1
    ·rw[bL (eD s)]
    rw[aZ d7];by_cases z:8<D.getD n 0
    ·rw[bL (eD z)]
    rw[aZ d7];have hb:=f n (Pd n);obtain⟨p,E⟩:=aiL (a:=fF (D.take n)) (x:=D.getD n 0) (A:=4096) (B:=8) (by omega) hb.2 (by omega) (by omega);rw[tK];by_cases C:4096<fF (D.take n)*D.getD n 0
    ·rw[bL (eD C)]
    ·exact absurd ⟨⟨⟨by omega,by omega⟩,⟨by omega,by omega⟩,b⟩,by rw[IM (by omega)];omega⟩ u
   ·have e:n=L.length:=by omega
    rw[ak h,aZ (show cI _ (aM (ae L))=false from YQ (by show L.length<=_;omega)),e,d,zbg]
  ·rfl
 ·cases h

def aiX (x:Int×Int):Prop:=(0<=x.1/\x.1<=4096)/\(0<=x.2/\x.2<=4096)/\x.1*x.2<=1048576
instance (x:Int×Int):Decidable (aiX x):=by unfold aiX;infer_instance
def tU (M:Nat->Nat->Int) (a b:Nat):Nat->Nat->Int:=fun i j=>if i=a then M b j else if i=b then M a j else M i j
def AU (M:Nat->Nat->Int) (j:Nat):Nat->Nat->Option Nat
 |0,_=>none
 |d+1,k=>if M k j=0 then AU M j d (k+1) else some k
def yV (p out x:Int) (n:Nat):Int:=if h:n=0 then out else yV p (if n%2=1 then out*x%p else out) (x*x%p) (n/2)
termination_by n
decreasing_by omega
def j7:U->Option U:=fun(l:U)=>if l.length<=1099511627776 then some l else none
def aiK (x:Int×(Int×Int×U)×(Int×Int×U)):Prop:=sK x.1/\Fl x.2.1/\Fl x.2.2/\x.2.1.2.1=x.2.2.1/\x.2.1.1*x.2.2.2.1<=1048576/\wR x.1 x.2.1.2.2/\wR x.1 x.2.2.2.2
instance (x:Int×(Int×Int×U)×(Int×Int×U)):Decidable (aiK x):=by unfold aiK;infer_instance
def TL (NN:Nat):U->(Option U):=
 (fun l0=>
 (lR (aw (ae (([]:U))) (ae l0)) 8).ab (fun _=>
 (cB (d6 (([]:U)) l0) (aw (ae (([]:U))) (ae l0))).ab (fun l1=>
 some l1)))
theorem aqR (x y:U) (h:j7 x=some y):TL aP x=some y:=by simp only[j7] at h;split at h;rename_i hl;rw[<-h];simp only[TL];rw[w9 (by simp only[aw,ae,zax,gH];omega),bE];have:d6 [] x=x:=rfl;rw[this,show aw (ae ([]:U)) (ae x)=ae x by simp[aw,ae],gT];rfl;cases h
theorem Zp {M:Nat->Nat->Int} {j q:Nat}:∀{d k:Nat},AU M j d k=some q->k<=q/\q<k+d/\M q j≠0
 |0,k,h=>by cases h
 |d+1,k,h=>by simp only[AU] at h;split at h;have:=Zp h;exact⟨by omega,by omega,this.2.2⟩;rename_i a;injection h with h;subst h;exact⟨by omega,by omega,a⟩
theorem atf (p out x:Int):yV p out x 0=out:=by rw[yV];rfl
theorem ath {n:Nat} (h:n≠0) (p out x:Int):yV p out x n=yV p (if n%2=1 then out*x%p else out) (x*x%p) (n/2):=by rw[yV,dif_neg h]
def amv (x:Int×Int×Int):Prop:=kg x.1=true/\(1<=x.2.1/\x.2.1<=8)/\(1<=x.2.2/\x.2.2<=8)
instance (x:Int×Int×Int):Decidable (amv x):=by unfold amv;infer_instance
abbrev fu:=Nat->Nat->Int
def FJ (p inv:Int) (M:fu) (t:Nat):fu:=fun a b=>if a=t then M t b*inv%p else M a b
def mV (p:Int) (M:fu) (t j n:Nat):fu:=fun a b=>if a<n/\a≠t then(M a b+(p - M a j)*M t b)%p else M a b
def MU (p:Int) (M:fu) (t j k:Nat):fu:=FJ p (yV p 1 (tU M t k t j) (p - 2).toNat) (tU M t k) t
def akf (p:Int) (M:fu) (t j k:Nat) (d:Int):Int:=(if k=t then d else(p - d)%p)*tU M t k t j%p
def AY (p:Int) (r:Nat) (s:fu×U×Int) (j:Nat):fu×U×Int:=
 if s.2.1.length<r then
  match AU s.1 j (r - s.2.1.length) s.2.1.length with
  |none=>s
  |some k=>(mV p (MU p s.1 s.2.1.length j k) s.2.1.length j r,s.2.1++[(j:Int)],akf p s.1 s.2.1.length j k s.2.2)
 else s
def akg (p:Int) (r:Nat) (M:fu):Nat->fu×U×Int
 |0=>(M,[],1)
 |j+1=>AY p r (akg p r M j) j
def akh (x:Int×Int×Int×U):Prop:=sK x.1/\Fl x.2/\wR x.1 x.2.2.2
instance (x:Int×Int×Int×U):Decidable (akh x):=by unfold akh;infer_instance
theorem am0 {p:Int} {r c:Nat} {M:fu} (d:uQ p r c M) {a b:Nat} (ha:a<r) (hb:b<r):uQ p r c (tU M a b):=by intro i hi j hj;unfold tU;split;exact d b hb j hj;split;exact d a ha j hj;exact d i hi j hj
theorem al0 {p inv:Int} {r c:Nat} {M:fu} (hp:sK p) (a:uQ p r c M) (t:Nat):uQ p r c (FJ p inv M t):=by intro i hi j hj;unfold FJ;split;exact VJ hp _;exact a i hi j hj
theorem aoT {p:Int} {r c:Nat} {M:fu} (hp:sK p) (a:uQ p r c M) (t k n:Nat):uQ p r c (mV p M t k n):=by intro i hi j hj;unfold mV;split;exact VJ hp _;exact a i hi j hj
theorem ayL {p:Int} {r c:Nat} {M:fu} (hp:sK p) (b:uQ p r c M) {t k:Nat} (a:t<r) (d:k<r) (j:Nat):uQ p r c (MU p M t j k):=al0 hp (am0 b a d) t
structure RI (p:Int) (r c:Nat) (s:fu×U×Int) (j:Nat):Prop where
 m:uQ p r c s.1
 l:s.2.1.length<=r
 lj:s.2.1.length<=j
 d:vM p s.2.2
 e:∀x∈s.2.1,0<=x/\x<(j:Int)
theorem RI.step {p:Int} {r c:Nat} {s:fu×U×Int} {j:Nat} (hp:sK p) (h:RI p r c s j):RI p r c (AY p r s j) (j+1):=by have keep:RI p r c s (j+1):=⟨h.m,h.l,by have:=h.lj;omega,h.d,fun x hx=>by have:=h.e x hx;omega⟩;unfold AY;split;rename_i hl;split;exact keep;rename_i k a;have hq:=Zp a;refine⟨aoT hp (ayL hp h.m hl (by omega) j) _ _ _,?_,?_,VJ hp _,?_⟩;simp only[Pe,IS,zax];omega;have:=h.lj;simp only[Pe,IS,zax];omega;intro x hx;simp only[zb0,zbI] at hx;rcases hx with hx|rfl;have:=h.e x hx;omega;omega;exact keep
theorem aoS {p:Int} (M:fu) (t j:Nat):mV p M t j 0=M:=by funext a b;exact ak (by omega)
theorem aoU {p:Int} (M:fu) (t j n b:Nat):mV p M t j n n b=M n b:=ak (by omega)
theorem aoW {p:Int} (M:fu) (t j n b:Nat):mV p M t j n t b=M t b:=ak (by omega)
theorem aoV {p:Int} (M:fu) (t j:Nat):mV p M t j (t+1)=mV p M t j t:=by funext a b;unfold mV;by_cases h:a<t;rw[ah (by omega),ah (by omega)];rw[ak (by omega),ak (by omega)]
theorem ajF {M:fu} {j:Nat}:∀{d k:Nat},AU M j d k=none->∀i,k<=i->i<k+d->M i j=0
 |0,k,_,i,h1,h2=>by omega
 |d+1,k,h,i,h1,h2=>by simp only[AU] at h;split at h;rename_i a;by_cases hi:i=k;rw[hi];exact a;exact ajF h i (by omega) (by omega);cases h
theorem azj {p:Int} {r:Nat} {s:fu×U×Int} {j:Nat} (hl:s.2.1.length<r) (h:AU s.1 j (r - s.2.1.length) s.2.1.length=none):AY p r s j=s:=by unfold AY;rw[ah hl,h]
theorem azk {p:Int} {r:Nat} {s:fu×U×Int} {j k:Nat} (hl:s.2.1.length<r) (h:AU s.1 j (r - s.2.1.length) s.2.1.length=some k): AY p r s j=(mV p (MU p s.1 s.2.1.length j k) s.2.1.length j r,s.2.1++[(j:Int)],akf p s.1 s.2.1.length j k s.2.2):=by unfold AY;rw[ah hl,h]
section
variable {p:Int} {r c:Nat} {M0 M R:fu} {L:U}
end
abbrev BQ:=Int×Int×Int×U
def aAr:BQ:=(0,0,0,[])
def ami (s:BQ):Prop:=(0<=s.1/\s.1<=64)/\(0<=s.2.1/\s.2.1<=64)/\(0<=s.2.2.1/\s.2.2.1<=64)/\(s.2.2.2.length:Int)=s.1*s.2.1*s.2.2.1
instance (s:BQ):Decidable (ami s):=by unfold ami;infer_instance
def oF (D ix:U):Bool:=decide (ix.length=D.length)&&decide (∀i,i<D.length->0<=ix.getD i 0/\ix.getD i 0<D.getD i 0)
def bd (b:Int) (l:List BQ):Nat->Int
 |0=>b
 |k+1=>(l.getD k aAr).2.2.1
def dL (n:Nat) (f:Nat->Int):U:=(zal n).map f
theorem gK (n:Nat) (f:Nat->Int):(dL n f).length=n:=by simp[dL]
theorem qd {n j:Nat} (f:Nat->Int) (h:j<n):(dL n f)[j]? =some (f j):=by simp[dL,zbC h]
theorem n4 {n:Nat} {f g:Nat->Int} (h:∀j,j<n->f j=g j):dL n f=dL n g:=IN fun j hj=>h j (zaO.1 hj)
theorem Nb {n j:Nat} (f:Nat->Int) (x:Int):be (dL n f) j x=dL n (fun q=>if q=j then x else f q):=by unfold be;apply zag;intro k;rw[List.getElem?_set,gK];by_cases a:k<n;rw[qd _ a,qd _ a];by_cases e:j=k;subst e;simp[a];rw[ak e];simp[show¬k=j from fun h=>e h.symm];rw[BY (by rw[gK];omega),BY (by rw[gK];omega)];by_cases e:j=k;subst e;simp[a];simp[e]
theorem Fi (n:Nat) (f:Nat->Int):ae (dL n f)=n:=gK n f
theorem azy (n:Nat) (x:Int):cj n x=dL n (fun _=>x):=by unfold cj dL;rw[List.map_const',za8]
theorem Cb (n:Nat) (f g:Nat->Int):bh 0 (ae (dL n f)) (ae (dL n g))=some ():=by rw[Fi,Fi];exact bR n
theorem GX {n j:Nat} (f:Nat->Int) (h:j<n):cM (j:Int) (ae (dL n f))=some j:=kI (by rw[Fi];exact h)
theorem Ld {n j:Nat} (f:Nat->Int) (h:j<n):bW (dL n f) j=some (f j):=qd f h
theorem map_take {α:Type} (g:α->Int) {L:List α} {j:Nat} {x:α} (h:L[j]? =some x):d6 ((L.take j).map g) [g x]=(L.take (j+1)).map g:=by simp[d6,zaM,h]
def aU:U->Nat
 |[]=>1
 |x::l=>x.toNat*aU l
def eR (D:U) (i:Nat):Nat:=aU (D.drop i)
def fY (D:U) (n i:Nat):Int:=((n/eR D (i+1)%(D.getD i 0).toNat:Nat):Int)
def bi (D:U) (n:Nat):U:=dL D.length (fY D n)
def jD (D ix:U):Nat->Nat
 |0=>0
 |j+1=>jD D ix j*(D.getD j 0).toNat+(ix.getD j 0).toNat
def jl (D:U):Prop:=D.length<=1048576/\∀x∈D,1<=x/\x<=1048576
instance (D:U):Decidable (jl D):=by unfold jl;infer_instance
def vd:U×U->Option (Bool×U):=fun x=>
 if jl x.1/\x.2=bi x.1 (jD x.1 x.2 x.1.length)/\jD x.1 x.2 x.1.length<aU x.1/\aU x.1<=1048576 then
  some (decide (jD x.1 x.2 x.1.length+1<aU x.1),bi x.1 (jD x.1 x.2 x.1.length+1)) else none
def TX (NN:Nat):(U×U)->(Option (Bool×U)):=
 (fun(l0,l1)=>
 cN (aq l1 (
 cL NN (fun((l2,i3),l4)=>
 aD (ic (0:Int) i3)
 ((cM i3 (ae l4)).ab (fun k5=>
 (bW l4 (aw 0 k5)).ab (fun i6=>
 (cM i3 (ae l4)).ab (fun k7=>
 (bW l4 (aw 0 k7)).ab (fun i8=>
 (cM i3 (ae l4)).ab (fun k9=>
 (bW (be l4 (aw 0 k7) (bC .i64 i6 1)) (aw 0 k9)).ab (fun gd=>
 (cV l2 i3).ab (fun fN=>
 aD (cI gd fN)
 ((((qT (ae (be l4 (aw 0 k7) (bC .i64 i6 1))) (ae l1)).ab (fun _=>
 some (true,be l4 (aw 0 k7) (bC .i64 i6 1)))).ab (fun((Om,dw):(Bool×U))=>
 some (IT (Om,dw)))).ab (fun dj=>
 some (IT dj)))
 ((cM i3 (ae l4)).ab (fun nV=>
 (bW (be l4 (aw 0 k7) (bC .i64 i6 1)) (aw 0 nV)).ab (fun fy=>
 (bh 0 (ae l4) (ae (be (be l4 (aw 0 k7) (bC .i64 i6 1)) (aw 0 nV) (0:Int)))).ab (fun _=>
 some (wt ((l2,jE .i64 i3 1),be (be l4 (aw 0 k7) (bC .i64 i6 1)) (aw 0 nV) (0:Int)))))))))))))))
 (some (IT (wt l4))))
 ((l0,jE .i64 (aM (ae l0)) (1:Int)),l1)))
 (fun dk=>
 (qT (ae dk) (ae l1)).ab (fun _=>
 some (false,dk))))
theorem OZ {D:U} (h:jl D) {i:Nat} (hi:i<D.length):∃d:Nat,D[i]? =some (d:Int)/\D.getD i 0=(d:Int)/\(D.getD i 0).toNat=d/\1<=d/\d<=1048576:=by have e:=getD_some 0 hi;have hm:=h.2 _ (zaw e);obtain⟨d,hd⟩:=jc (show 0<=D.getD i 0 by omega);exact⟨d,by rw[e,hd],hd,by rw[hd];rfl,by omega,by omega⟩
theorem F5 {D:U} {i:Nat} (hi:i<D.length):eR D i=(D.getD i 0).toNat*eR D (i+1):=by unfold eR;rw[drop_cons (getD_some 0 hi),aU]
theorem xO (D:U):eR D D.length=1:=by simp[eR,aU]
theorem SG (D:U):eR D 0=aU D:=rfl
theorem AW:∀{D:U},(∀x∈D,1<=x)->0<aU D
 |[],_=>Nat.one_pos
 |x::l,h=>by have h1:=h x zaz;exact zb1 (by omega) (AW fun y hy=>h y (zao _ hy))
theorem am1 {D:U} (h:jl D) (i:Nat):0<eR D i:=AW fun x hx=>(h.2 x (zaU hx)).1
theorem AV:∀{D:U},(∀x∈D,1<=x)->fF D=(aU D:Int)
 |[],_=>rfl
 |x::l,h=>by have h1:=h x zaz;rw[fF,aU,AV fun y hy=>h y (zao _ hy)];obtain⟨x,rfl⟩:=jc (show 0<=x by omega);simp
theorem abi {D:U} {i j:Nat} (h:i<=j) (hj:j<=D.length):eR D j∣eR D i:=by obtain⟨k,rfl⟩:∃k,j=i+k:=⟨j - i,by omega⟩;induction k with|zero=>exact Nat.dvd_refl _|succ k a=>refine zbK ?_ (a (by omega) (by omega));rw[F5 (i:=i+k) (by omega)];exact Nat.dvd_mul_left _ _
def vW (D:U) (n n' k:Nat):U:=dL D.length fun q=>if k<=q then fY D n' q else fY D n q
theorem avJ (D:U) (n a:Nat):vW D n a 0=bi D a:=n4 fun q _=>by simp
theorem avK (D:U) (n a:Nat):vW D n a D.length=bi D n:=n4 fun q hq=>by simp;intro h;omega
theorem ahe (D:U) (n a k:Nat):be (vW D n a (k+1)) k (fY D a k)=vW D n a k:=by unfold vW;rw[Nb];refine n4 fun q _=>?_;by_cases e:q=k;subst e;simp;by_cases h:k<=q;rw[ak e,ah (by omega),ah h];rw[ak e,ak (by omega),ak h]
theorem QK (D:U) (n a k:Nat):ae (vW D n a k)=D.length:=gK _ _
theorem Iu {D:U} {n a k:Nat} (h:k<D.length):bW (vW D n a (k+1)) k=some (fY D n k):=by unfold vW;rw[Ld _ h,ak (by omega)]
theorem amS {n:Nat} (h:n<=1048577:=by omega):jE .i64 (n:Int) 1=(n:Int) - 1:=n8
theorem apM {a k:Nat} (hk:0<k) (h:(a+1)%k≠0):(a+1)/k=a/k:=by rw[zcc,ak (fun hd=>h (zaL hd)),zbo]
theorem apN {a k:Nat} (hk:0<k) (h:(a+1)%k=0):(a+1)/k=a/k+1:=by rw[zcc,ah (zay h)]
theorem apE {D:U} (a:jl D) {n i:Nat} (hi:i<=D.length) (h:(n+1)%eR D i≠0) {q:Nat} (b:q<i):fY D (n+1) q=fY D n q:=by unfold fY;rw[apM (am1 a _)];intro c;exact h (zaL (zbK (abi b hi) (zay c)))
theorem adx {D:U} (g:jl D) {n i:Nat} (hi:i<D.length) (h:(n+1)%eR D (i+1)=0):
  (fY D n i+1<D.getD i 0->fY D (n+1) i=fY D n i+1/\(n+1)%eR D i≠0)/\(¬fY D n i+1<D.getD i 0->fY D (n+1) i=0/\(n+1)%eR D i=0):=by
 obtain⟨d,d1,o,m,d4,d5⟩:=OZ g hi;have b:=am1 g (i+1);have l:=apN b h;obtain⟨c,j⟩:=zay h;have f:(n+1)/eR D (i+1)=c:=by rw[j,zaI _ b]
 have e:(n+1)%eR D i=eR D (i+1)*(c%d):=by rw[F5 hi,m,j,zah d,Nat.mul_mod_mul_left]
 unfold fY;rw[o,f,e];simp only[AT];rw[f] at l;have cu:n/eR D (i+1)%d<d:=zb6 _ (by omega);have k:c%d=if n/eR D (i+1)%d+1<d then n/eR D (i+1)%d+1 else 0:=by
  rw[l,zb2];split
  ·rename_i hx;by_cases a:d=1
   ·omega
   ·rw[zar (show 1<d by omega),zar hx]
  ·by_cases a:d=1
   ·subst a;omega
   ·rw[zar (show 1<d by omega),show n/eR D (i+1)%d+1=d by omega,Nat.mod_self]
 constructor
 ·intro hx;rw[k,ah (by omega)];refine⟨by omega,?_⟩;have:=zb1 b (show 0<n/eR D (i+1)%d+1 by omega);omega
 ·intro hx;rw[k,ak (by omega)];exact⟨by omega,by simp⟩
theorem aqZ (x:U×U) (y:Bool×U) (h:vd x=some y):TX aP x=some y:=by
 obtain⟨D,ix⟩:=x;simp only[vd] at h;split at h
 ·rename_i E;obtain⟨f,A,hn,hp⟩:=E;rw[<-h];generalize jD D ix D.length=n at*
  subst A;have hl:=f.1;have hlen:(bi D n).length=D.length:=gK _ _;simp only[TX,aq];rw[bR,bE];obtain⟨k,k1,w,u⟩:=aa3 (fun j=>(n+1)%eR D (D.length - (j+1))=0) D.length;have i:∀j,j<=k->(n+1)%eR D (D.length - j)=0:=fun j hj=>by
   cases j with
   |zero=>rw[zbP,xO];omega
   |succ j=>exact w j (by omega)
  have v:∀j,j<k->fY D (n+1) (D.length - (j+1))=0/\¬fY D n (D.length - (j+1))+1<D.getD (D.length - (j+1)) 0:=fun j hj=>by
   have a:D.length - (j+1)<D.length:=by omega
   have c:=i j (by omega);rw[show D.length - j=D.length - (j+1)+1 by omega] at c;obtain⟨o,m⟩:=adx f a c;by_cases hx:fY D n (D.length - (j+1))+1<D.getD (D.length - (j+1)) 0
   ·exact absurd (i (j+1) (by omega)) (o hx).2
   ·exact⟨(m hx).1,hx⟩
  have d:∀q,0<=fY D n q/\fY D n q<=1048576:=fun q=>by
   unfold fY;have c:n/eR D (q+1)%(D.getD q 0).toNat<=n/eR D (q+1):=Nat.mod_le _ _;have h2:n/eR D (q+1)<=n:=Nat.div_le_self _ _;omega
  have B:jE .i64 (aM (ae D)) 1=(D.length:Int) - ((0:Nat):Int) - 1:=by rw[nl,amS];omega
  rw[gw (fun j=>((D,(D.length:Int) - (j:Int) - 1),vW D n (n+1) (D.length - j))) (r:=if k=D.length then wt (bi D (n+1)) else IT (true,bi D (n+1))) k ?_ ?_ ?_ eZ]
  ·by_cases a:k=D.length
   ·rw[ah a,fU];have z:(n+1)%aU D=0:=by have:=i k (Pd _);rwa[a,zas,SG] at this
    have s:¬n+1<aU D:=fun hx=>by rw[zar hx] at z;omega
    rw[decide_eq_false s,xJ (by show ae (bi D (n+1))=ae (bi D n);unfold bi;rw[Fi,Fi]),bE]
   ·rw[ak a,Yo];have g:=(u.resolve_left a);have s:n+1<aU D:=by
     rcases zaP (n+1) (aU D) with h|h
     ·exact h
     ·exfalso;have e:n+1=aU D:=by omega
      apply g;rw[e,<-SG];exact zaL (abi (zci _) (by omega))
    rw[decide_eq_true s]
  ·intro j hj;have a:D.length - (j+1)<D.length:=by omega
   have p:(D.length:Int) - j - 1=((D.length - (j+1):Nat):Int):=by omega
   obtain⟨t,F⟩:=v j hj;have C:=d (D.length - (j+1));simp only
   rw[p,show D.length - j=D.length - (j+1)+1 by omega,bL CW,kI (by rw[QK];exact a),bE,mw,Iu a,bE];simp only[bE,mw,Iu a];rw[ez];have l:bW (be (vW D n (n+1) (D.length - (j+1)+1)) (D.length - (j+1)) (fY D n (D.length - (j+1))+1)) (D.length - (j+1))=some (fY D n (D.length - (j+1))+1):=afr (Iu a);rw[l,bE,fC,getD_some 0 a,bE,aZ d7]
   try simp only[bE,mw,l]
   rw[aAi,<-t,ahe,QK,QK,bR,bE,amS];congr 4;omega
  ·by_cases a:k=D.length
   ·rw[ah a,a];simp only
    rw[aZ Ik,zas,avJ]
   ·rw[ak a];have b:D.length - (k+1)<D.length:=by omega
    have p:(D.length:Int) - k - 1=((D.length - (k+1):Nat):Int):=by omega
    have c:=i k (Pd _);rw[show D.length - k=D.length - (k+1)+1 by omega] at c;obtain⟨o,m⟩:=adx f b c;have g:=(u.resolve_left a);have hx:fY D n (D.length - (k+1))+1<D.getD (D.length - (k+1)) 0:=by
     rcases zbn (fY D n (D.length - (k+1))+1<D.getD (D.length - (k+1)) 0) with h|h
     ·exact h
     ·exact absurd (m h).2 g
    obtain⟨t,F⟩:=o hx;have C:=d (D.length - (k+1));simp only
    rw[p,show D.length - k=D.length - (k+1)+1 by omega,bL CW,kI (by rw[QK];exact b),bE,mw,Iu b,bE];simp only[bE,mw,Iu b];rw[ez];have l:bW (be (vW D n (n+1) (D.length - (k+1)+1)) (D.length - (k+1)) (fY D n (D.length - (k+1))+1)) (D.length - (k+1))=some (fY D n (D.length - (k+1))+1):=afr (Iu b);rw[l,bE,fC,getD_some 0 b,bE,bL eD];rw[<-t,ahe];have er:vW D n (n+1) (D.length - (k+1))=bi D (n+1):=n4 fun q hq=>by
     by_cases h:D.length - (k+1)<=q
     ·rw[ah h]
     ·rw[ak h,apE f (by omega) g (by omega)]
    rw[er,xJ (by show ae (bi D (n+1))=ae (bi D n);unfold bi;rw[Fi,Fi]),bE];rfl
  ·rw[B,zbP,avK]
 ·cases h
theorem xu {D:U} {n i:Nat} (hi:i<D.length):(bi D n).getD i 0=fY D n i:=by rw[zaE,bi,qd _ hi];rfl
theorem Za {D:U} (a:jl D) {n:Nat} (hn:n<aU D):∀j,j<=D.length->jD D (bi D n) j=n/eR D j
 |0,_=>by rw[SG,zbf hn];rfl
 |j+1,hj=>by rw[jD,Za a hn j (by omega),xu (by omega),fY,AT,F5 (by omega),zah (D.getD j 0).toNat,<-Nat.div_div_eq_div_mul,zah,zaY]
theorem axi {D:U} (a:jl D) {n:Nat} (hn:n<aU D) (hp:aU D<=1048576):vd (D,bi D n)=some (decide (n+1<aU D),bi D (n+1)):=by have e:=Za a hn D.length (Pd _);rw[xO,Nat.div_one] at e;simp only[vd,e];rw[ah ⟨a,trivial,hn,hp⟩]
theorem azw (n:Nat) (f:Nat->Int):d6 (dL n f) [f n]=dL (n+1) f:=by unfold d6 dL;rw[zbt,zaA];rfl
theorem as3 {D:U} (hD:jl D):cj (ae D) (0:Int)=bi D 0:=by rw[azy];refine n4 fun i _=>?_;simp[fY]

def bc:Int×Int×Int->Bool:=fun((k,p,n):Int×Int×Int)=>
 if k=1 then decide (p=0/\n=0) else if k=2 then kg p&&decide (n=0) else if k=3\/k=4\/k=5 then decide ((1<=p/\p<=1000000)/\n=0)
 else if k=6 then decide (p=0/\1<=n/\n<=20) else if k=7 then kg p&&decide (1<=n/\n<=6) else if k=8 then kg p&&decide (p≠2/\n=0) else false
def kt:Int×Int×Int->Int:=fun((k,p,n):Int×Int×Int)=>if k=7 then n else if k=8 then 4 else 1
def az (r:Int×Int×Int):Nat:=(kt r).toNat
def cr:Int×Int×Int->Int:=fun((k,p,n):Int×Int×Int)=>if k=1 then 1 else if k=3\/k=4\/k=5 then p else if k=6 then 2^n.toNat - 1 else p - 1
def pY (t v:Int):Bool:=decide (0<=v/\v<=t)
def bm (r:Int×Int×Int) (x:U):Bool:=decide (x.length=az r)&&x.all (pY (cr r))
def d9:Int×Int×Int->U:=fun((k,p,n):Int×Int×Int)=>if k=4 then[p] else cj (az (k,p,n)) 0
def cH:Int×Int×Int->U:=fun((k,p,n):Int×Int×Int)=>be (cj (az (k,p,n)) 0) 0 (if k=4 then 0 else if k=5\/k=6 then cr (k,p,n) else 1)
def jf:Int×Int×Int->Int->Int->Int:=fun((k,p,n):Int×Int×Int) a b=>
 if k=1\/k=6 then((a.toNat|||b.toNat:Nat):Int) else if k=3 then min (a+b) p else if k=4 then min a b else if k=5 then max a b else(a+b)%p
def sm:Nat->(Nat->Int)->Int
 |0,_=>0
 |n+1,f=>sm n f+f n
def kW (om:Bool) (x y:Nat->Int) (t i j:Nat):Int:=if i+j=t then x i*y j else if om=true/\i+j=t+4 then -(x i*y j) else 0
def gN (w:Nat) (f:Nat->Int):U:=(zal w).map f
def cE (x:U):Nat->Int:=fun i=>x.getD i 0
def cA (r:Int×Int×Int) (x y:U):U:=gN (az r) fun j=>jf r (cE x j) (cE y j)
def wW (p:Int) (om:Bool) (w:Nat) (x y:Nat->Int):U:=gN w fun t=>sm w (fun i=>sm w (fun j=>kW om x y t i j))%p
def kl:Int×Int×Int->Int->Int->Int:=fun((k,p,n):Int×Int×Int) a b=>
 if k=1\/k=6 then((a.toNat&&&b.toNat:Nat):Int) else if k=2 then a*b%p else if k=3 then min (a*b) p else if k=4 then min (a+b) p else min a b
def dg (r:Int×Int×Int) (x y:U):U:=if r.1=7\/r.1=8 then wW r.2.1 (decide (r.1=8)) (az r) (cE x) (cE y) else[kl r (cE x 0) (cE y 0)]
def iB (r:Int×Int×Int) (x:U):Nat->U
 |0=>cH r
 |n+1=>dg r (iB r x n) x
def s9:Int×Int×Int->Int->U:=fun((k,p,n):Int×Int×Int) m=>if k=3 then be (cH (k,p,n)) 0 (min m p) else if k=2\/k=7\/k=8 then be (cH (k,p,n)) 0 (m%p) else cH (k,p,n)
def il (r:Int×Int×Int) (m:Int):U:=if m=0 then d9 r else s9 r m
def OR (r:Int×Int×Int) (m:Int):U:=if bc r=true/\0<=m then il r m else[]
def qW:Int×Int×Int->Option Bool:=fun r=>some (bc r)
def BH:Int×Int×Int->Option Int:=fun r=>some (kt r)
def ov:Int×Int×Int->Option Int:=fun r=>some (kt r)
def BG:Int×Int×Int->Option Int:=fun r=>if bc r=true then some (cr r) else none
def BF:Int×Int×Int->Option Int:=fun r=>if bc r=true then some (cr r) else none
def BC:(Int×Int×Int)×U->Option Bool:=fun((r,x):(Int×Int×Int)×U)=>if bc r=true/\x.length<=9223372036854775806 then some (x.all (pY (cr r))) else none
def xW:(Int×Int×Int)×U->Option Bool:=fun((r,x):(Int×Int×Int)×U)=>if x.length<=9223372036854775806 then some (bc r&&bm r x) else none
def JX:Int×Int×Int->Option U:=fun r=>if bc r=true then some (d9 r) else none
def ve:Int×Int×Int->Option U:=fun r=>if bc r=true then some (d9 r) else none
def Gx:Int×Int×Int->Option U:=fun r=>if bc r=true then some (cH r) else none
def qY:Int×Int×Int->Option U:=fun r=>if bc r=true then some (cH r) else none
def DK:(Int×Int×Int)×U×U×U->Option U:=fun((r,l,x,y):(Int×Int×Int)×U×U×U)=>
 if(bc r=true/\(r.1=7\/r.1=8))/\l.length=az r/\bm r x=true/\bm r y=true then some (dg r x y) else none
def BD:(Int×Int×Int)×U×U×U->Option U:=fun((r,l,x,y):(Int×Int×Int)×U×U×U)=>
 if bc r=true/\l.length=az r/\bm r x=true/\bm r y=true then some (dg r x y) else none
def x3:(Int×Int×Int)×U×U->Option U:=fun((r,x,y):(Int×Int×Int)×U×U)=>if bc r=true/\bm r x=true/\bm r y=true then some (dg r x y) else none
def x4:(Int×Int×Int)×U×Int->Option U:=fun((r,x,n):(Int×Int×Int)×U×Int)=>if(bc r=true/\bm r x=true)/\0<=n/\n<=1048576 then some (iB r x n.toNat) else none
def xV:(Int×Int×Int)×Int->Option U:=fun((r,m):(Int×Int×Int)×Int)=>some (OR r m)
def Tw (NN:Nat):(Int×(Int×Int))->(Option Bool):=
 (fun(i0,i1,i2)=>
 aD (bq i0 (1:Int))
 (aD (bq i1 (0:Int))
 (some (bq i2 (0:Int)))
 (some false))
 (aD (bq i0 (2:Int))
 ((BB i1).ab (fun b3=>
 aD (b3)
 (some (bq i2 (0:Int)))
 (some false)))
 (cN (aD (bq i0 (3:Int))
 (some (wt ((true,i0),i0,i1,i2)))
 (aD (bq i0 (4:Int))
 (some (wt ((true,i0),i0,i1,i2)))
 (some (wt ((bq i0 (5:Int),i0),i0,i1,i2)))))
 (fun((b4,i5),i6,i7,i8)=>
 aD (b4)
 (aD (ic (1:Int) i7)
 (aD (ic i7 (1000000:Int))
 (some (bq i8 (0:Int)))
 (some false))
 (some false))
 (aD (bq i5 (6:Int))
 (aD (bq i7 (0:Int))
 (aD (ic (1:Int) i8)
 (some (ic i8 (20:Int)))
 (some false))
 (some false))
 (aD (bq i5 (7:Int))
 ((BB i7).ab (fun b9=>
 aD (b9)
 (aD (ic (1:Int) i8)
 (some (ic i8 (6:Int)))
 (some false))
 (some false)))
 (aD (bq i5 (8:Int))
 ((BB i7).ab (fun ra=>
 aD (ra)
 (aD (jA i7 (2:Int))
 (some (bq i8 (0:Int)))
 (some false))
 (some false)))
 (some false))))))))
def T7 (NN:Nat):(Int×(Int×Int))->(Option Int):=
 (fun(i0,i1,i2)=>
 aD (bq i0 (7:Int))
 (some i2)
 (aD (bq i0 (8:Int))
 (some (4:Int))
 (some (1:Int))))
def abQ (NN:Nat):(Int×(Int×Int))->(Option Int):=
 (fun(i0,i1,i2)=>
 aD (bq i0 (7:Int))
 (some i2)
 (aD (bq i0 (8:Int))
 (some (4:Int))
 (some (1:Int))))
def abO (NN:Nat):(Int×(Int×Int))->(Option Int):=
 (fun(i0,i1,i2)=>
 aD (bq i0 (1:Int))
 (some (1:Int))
 (cN (aD (bq i0 (3:Int))
 (some (wt ((true,i0),i0,i1,i2)))
 (aD (bq i0 (4:Int))
 (some (wt ((true,i0),i0,i1,i2)))
 (some (wt ((bq i0 (5:Int),i0),i0,i1,i2)))))
 (fun((b3,i4),i5,i6,i7)=>
 aD (b3)
 (some i6)
 (aD (bq i4 (6:Int))
 ((Bc .i64 (1:Int) i7).ab (fun i8=>
 some (jE .i64 i8 1)))
 (some (jE .i64 i6 1))))))
def abP (NN:Nat):(Int×(Int×Int))->(Option Int):=
 (fun(i0,i1,i2)=>
 aD (bq i0 (1:Int))
 (some (1:Int))
 (cN (aD (bq i0 (3:Int))
 (some (wt ((true,i0),i0,i1,i2)))
 (aD (bq i0 (4:Int))
 (some (wt ((true,i0),i0,i1,i2)))
 (some (wt ((bq i0 (5:Int),i0),i0,i1,i2)))))
 (fun((b3,i4),i5,i6,i7)=>
 aD (b3)
 (some i6)
 (aD (bq i4 (6:Int))
 ((Bc .i64 (1:Int) i7).ab (fun i8=>
 some (jE .i64 i8 1)))
 (some (jE .i64 i6 1))))))
def TS (NN:Nat):((Int×(Int×Int))×U)->(Option Bool):=
 (fun((i0,i1,i2),l3)=>
 (BF (i0,i1,i2)).ab (fun i4=>
 cN (cL NN (fun(i5,l6,i7,i8)=>
 aD (cI i8 i7)
 ((cV l6 i8).ab (fun i9=>
 aD (cI i9 (0:Int))
 (some (IT (IT false)))
 (aD (cI i5 i9)
 (some (IT (IT false)))
 (some (wt (i5,l6,i7,bC .i64 i8 1))))))
 (some (IT (wt ()))))
 (i4,l3,aM (ae l3),(0:Int)))
 (fun _=>
 some true)))
def Tm (NN:Nat):((Int×(Int×Int))×U)->(Option Bool):=
 (fun((i0,i1,i2),l3)=>
 (qW (i0,i1,i2)).ab (fun b4=>
 aD (b4)
 ((ov (i0,i1,i2)).ab (fun i5=>
 aD (bq (aM (ae l3)) i5)
 ((BC ((i0,i1,i2),l3)).ab (fun b6=>
 some b6))
 (some false)))
 (some false)))
def T8 (NN:Nat):(Int×(Int×Int))->(Option U):=
 (fun(i0,i1,i2)=>
 (ov (i0,i1,i2)).ab (fun i3=>
 (ki i3 i3 8).ab (fun k4=>
 cN (aD (bq i0 (4:Int))
 ((cM (0:Int) k4).ab (fun k5=>
 (bW (cj k4 (0:Int)) (aw 0 k5)).ab (fun i6=>
 (bh 0 k4 (ae (be (cj k4 (0:Int)) (aw 0 k5) i1))).ab (fun _=>
 some (wt (be (cj k4 (0:Int)) (aw 0 k5) i1))))))
 ((bh 0 k4 (ae (cj k4 (0:Int)))).ab (fun _=>
 some (wt (cj k4 (0:Int))))))
 (fun l7=>
 (cB l7 (ae l7)).ab (fun l8=>
 some l8)))))
def abR (NN:Nat):(Int×(Int×Int))->(Option U):=
 (fun(i0,i1,i2)=>
 (BH (i0,i1,i2)).ab (fun i3=>
 (ki i3 i3 8).ab (fun k4=>
 cN (aD (bq i0 (4:Int))
 ((cM (0:Int) k4).ab (fun k5=>
 (bW (cj k4 (0:Int)) (aw 0 k5)).ab (fun i6=>
 (bh 0 k4 (ae (be (cj k4 (0:Int)) (aw 0 k5) i1))).ab (fun _=>
 some (wt (be (cj k4 (0:Int)) (aw 0 k5) i1))))))
 ((bh 0 k4 (ae (cj k4 (0:Int)))).ab (fun _=>
 some (wt (cj k4 (0:Int))))))
 (fun l7=>
 (cB l7 (ae l7)).ab (fun l8=>
 some l8)))))
def T4 (NN:Nat):(Int×(Int×Int))->(Option U):=
 (fun(i0,i1,i2)=>
 (ov (i0,i1,i2)).ab (fun i3=>
 (ki i3 i3 8).ab (fun k4=>
 aD (bq i0 (4:Int))
 ((cM (0:Int) k4).ab (fun k5=>
 (bW (cj k4 (0:Int)) (aw 0 k5)).ab (fun i6=>
 (cB (be (cj k4 (0:Int)) (aw 0 k5) (0:Int)) k4).ab (fun l7=>
 some l7))))
 (aD (bq i0 (5:Int))
 ((cM (0:Int) k4).ab (fun k8=>
 (bW (cj k4 (0:Int)) (aw 0 k8)).ab (fun i9=>
 (cB (be (cj k4 (0:Int)) (aw 0 k8) i1) k4).ab (fun cf=>
 some cf))))
 (aD (bq i0 (6:Int))
 ((BF (i0,i1,i2)).ab (fun fN=>
 (cM (0:Int) k4).ab (fun pZ=>
 (bW (cj k4 (0:Int)) (aw 0 pZ)).ab (fun gm=>
 (cB (be (cj k4 (0:Int)) (aw 0 pZ) fN) k4).ab (fun dj=>
 some dj)))))
 ((cM (0:Int) k4).ab (fun nV=>
 (bW (cj k4 (0:Int)) (aw 0 nV)).ab (fun fy=>
 (cB (be (cj k4 (0:Int)) (aw 0 nV) (1:Int)) k4).ab (fun dk=>
 some dk)))))))))
def Ut (NN:Nat):(Int×(Int×Int))->(Option U):=
 (fun(i0,i1,i2)=>
 (BH (i0,i1,i2)).ab (fun i3=>
 (ki i3 i3 8).ab (fun k4=>
 cN (aD (bq i0 (5:Int))
 ((bh 0 k4 (ae (cj k4 (0:Int)))).ab (fun _=>
 some (wt ((true,i0),(i0,i1,i2),cj k4 (0:Int)))))
 ((bh 0 k4 (ae (cj k4 (0:Int)))).ab (fun _=>
 some (wt ((bq i0 (6:Int),i0),(i0,i1,i2),cj k4 (0:Int))))))
 (fun((b5,i6),(i7,i8,i9),cf)=>
 aD (b5)
 ((BG (i7,i8,i9)).ab (fun fN=>
 (cM (0:Int) (ae cf)).ab (fun pZ=>
 (bW cf (aw 0 pZ)).ab (fun gm=>
 (cB (be cf (aw 0 pZ) fN) (ae cf)).ab (fun dj=>
 some dj)))))
 (aD (bq i6 (4:Int))
 ((cM (0:Int) (ae cf)).ab (fun nV=>
 (bW cf (aw 0 nV)).ab (fun fy=>
 (cB (be cf (aw 0 nV) (0:Int)) (ae cf)).ab (fun dk=>
 some dk))))
 ((cM (0:Int) (ae cf)).ab (fun AB=>
 (bW cf (aw 0 AB)).ab (fun fZ=>
 (cB (be cf (aw 0 AB) (1:Int)) (ae cf)).ab (fun iu=>
 some iu)))))))))
def TW (NN:Nat):((Int×(Int×Int))×(U×(U×U)))->(Option U):=
 (fun((i0,i1,i2),l3,l4,l5)=>
 (ym l3 0 (ae l3) (cj (ae l3) (0:Int))).ab (fun l6=>
 (bh 0 (ae l3) (ae l6)).ab (fun _=>
 cL NN (fun((l7,l8,i9,gd),eC,e9,gm,ft)=>
 aD (cI gd i9)
 (cN (aq eC (
 cL NN (fun((eQ,dn,eP,ii,fZ,eF,f0),dY,iq,fO,mI)=>
 aD (cI f0 eF)
 ((cV eQ eP).ab (fun jv=>
 (cV dn f0).ab (fun iS=>
 (nj (gY .i64 jv iS) fO).ab (fun pW=>
 aD (cI (bC .i64 eP f0) (aM (ae dY)))
 ((cM (bC .i64 eP f0) (ae dY)).ab (fun E0=>
 (bW dY (aw 0 E0)).ab (fun lm=>
 (nj (bC .i64 lm pW) fO).ab (fun rA=>
 (cM (bC .i64 eP f0) (ae dY)).ab (fun Yx=>
 (bW dY (aw 0 Yx)).ab (fun oE=>
 (bh 0 (ae dY) (ae (be dY (aw 0 Yx) rA))).ab (fun _=>
 some (wt ((eQ,dn,eP,ii,fZ,eF,bC .i64 f0 1),be dY (aw 0 Yx) rA,iq,fO,mI)))))))))
 (aD (bq iq (8:Int))
 ((cM (jE .i64 (bC .i64 eP f0) (4:Int)) (ae dY)).ab (fun Mg=>
 (bW dY (aw 0 Mg)).ab (fun lA=>
 (nj (jE .i64 (bC .i64 lA fO) pW) fO).ab (fun sq=>
 (cM (jE .i64 (bC .i64 eP f0) (4:Int)) (ae dY)).ab (fun xw=>
 (bW dY (aw 0 xw)).ab (fun tu=>
 (bh 0 (ae dY) (ae (be dY (aw 0 xw) sq))).ab (fun _=>
 some (wt ((eQ,dn,eP,ii,fZ,eF,bC .i64 f0 1),be dY (aw 0 xw) sq,iq,fO,mI)))))))))
 (aq dY (
 some (wt ((eQ,dn,eP,ii,fZ,eF,bC .i64 f0 1),dY,iq,fO,mI)))))))))
 ((aq dY (
 some (wt ((fZ,eQ,dn,ii),dY,iq,fO,mI)))).ab (fun tD=>
 some (IT tD))))
 ((l7,l8,gd,i9,gd,aM (ae l8),(0:Int)),eC,e9,gm,ft)))
 (fun((rB,jm,p9,Av),mK,Ax,tw,vJ)=>
 aq mK (
 some (wt ((jm,p9,Av,bC .i64 rB 1),mK,Ax,tw,vJ)))))
 (((qT (ae eC) (ae l3)).ab (fun _=>
 some eC)).ab (fun Ff=>
 some (IT Ff))))
 ((l4,l5,aM (ae l4),(0:Int)),l6,i0,i1,i2))))
def N3 (NN:Nat):((Int×(Int×Int))×(U×(U×U)))->(Option U):=
 (fun((i0,i1,i2),l3,l4,l5)=>
 cN (aD (bq i0 (1:Int))
 (aq l3 (
 some (wt ((true,i0,l4,l5),l3,i0,i1,i2))))
 (aq l3 (
 some (wt ((bq i0 (5:Int),i0,l4,l5),l3,i0,i1,i2)))))
 (fun((b6,i7,l8,l9),cf,fN,e9,gm)=>
 aD (b6)
 ((cV l8 (0:Int)).ab (fun ft=>
 (cV l9 (0:Int)).ab (fun jO=>
 (cM (0:Int) (ae cf)).ab (fun Yr=>
 (bW cf (aw 0 Yr)).ab (fun eP=>
 (qT (ae (be cf (aw 0 Yr) (iw ft jO))) (ae l3)).ab (fun _=>
 some (be cf (aw 0 Yr) (iw ft jO))))))))
 (aD (bq i7 (2:Int))
 ((cV l8 (0:Int)).ab (fun ii=>
 (cV l9 (0:Int)).ab (fun fZ=>
 (nj (gY .i64 ii fZ) e9).ab (fun eF=>
 (cM (0:Int) (ae cf)).ab (fun AD=>
 (bW cf (aw 0 AD)).ab (fun kO=>
 (qT (ae (be cf (aw 0 AD) eF)) (ae l3)).ab (fun _=>
 some (be cf (aw 0 AD) eF))))))))
 (aD (bq i7 (3:Int))
 ((cV l8 (0:Int)).ab (fun iq=>
 (cV l9 (0:Int)).ab (fun fO=>
 (cM (0:Int) (ae cf)).ab (fun AE=>
 (bW cf (aw 0 AE)).ab (fun jv=>
 (qT (ae (be cf (aw 0 AE) (iw (gY .i64 iq fO) e9))) (ae l3)).ab (fun _=>
 some (be cf (aw 0 AE) (iw (gY .i64 iq fO) e9))))))))
 (aD (bq i7 (4:Int))
 ((cV l8 (0:Int)).ab (fun iS=>
 (cV l9 (0:Int)).ab (fun pW=>
 (cM (0:Int) (ae cf)).ab (fun E0=>
 (bW cf (aw 0 E0)).ab (fun lm=>
 (qT (ae (be cf (aw 0 E0) (iw (bC .i64 iS pW) e9))) (ae l3)).ab (fun _=>
 some (be cf (aw 0 E0) (iw (bC .i64 iS pW) e9))))))))
 (aD (bq i7 (6:Int))
 ((cV l8 (0:Int)).ab (fun rA=>
 (cV l9 (0:Int)).ab (fun lp=>
 (cM (0:Int) (ae cf)).ab (fun vO=>
 (bW cf (aw 0 vO)).ab (fun kf=>
 (qT (ae (be cf (aw 0 vO) (pG .i64 rA lp))) (ae l3)).ab (fun _=>
 some (be cf (aw 0 vO) (pG .i64 rA lp))))))))
 (aq cf (
 (DK ((fN,e9,gm),cf,l8,l9)).ab (fun pn=>
 (qT (ae pn) (ae l3)).ab (fun _=>
 some pn))))))))))
def T2 (NN:Nat):((Int×(Int×Int))×(U×U))->(Option U):=
 (fun((i0,i1,i2),l3,l4)=>
 (ov (i0,i1,i2)).ab (fun i5=>
 (ki i5 i5 8).ab (fun k6=>
 (bh 0 k6 (ae (cj k6 (0:Int)))).ab (fun _=>
 (BD ((i0,i1,i2),cj k6 (0:Int),l3,l4)).ab (fun l7=>
 (cB l7 k6).ab (fun l8=>
 some l8))))))
def T6 (NN:Nat):((Int×(Int×Int))×(U×Int))->(Option U):=
 (fun((i0,i1,i2),l3,i4)=>
 (qY (i0,i1,i2)).ab (fun l5=>
 cN (aq l5 (
 cL NN (fun((l6,i7,i8),(i9,gd,fN),de)=>
 aD (cI i8 i7)
 ((cg de 0 (ae de)).ab (fun dw=>
 (x3 ((i9,gd,fN),dw,l6)).ab (fun dj=>
 aq dj (
 some (wt ((l6,i7,bC .i64 i8 1),(i9,gd,fN),dj))))))
 ((aq de (
 some (wt de))).ab (fun eQ=>
 some (IT eQ))))
 ((l3,i4,(0:Int)),(i0,i1,i2),l5)))
 (fun dn=>
 (cB dn (ae dn)).ab (fun dk=>
 some dk))))
def Tk (NN:Nat):((Int×(Int×Int))×Int)->(Option U):=
 (fun((i0,i1,i2),i3)=>
 (qW (i0,i1,i2)).ab (fun b4=>
 aD (dz b4)
 (some (([]:U)))
 (aD (cI i3 (0:Int))
 (some (([]:U)))
 (aD (bq i3 (0:Int))
 ((ve (i0,i1,i2)).ab (fun l5=>
 (cB l5 (ae l5)).ab (fun l6=>
 some l6)))
 ((qY (i0,i1,i2)).ab (fun l7=>
 aD (bq i0 (3:Int))
 ((cM (0:Int) (ae l7)).ab (fun k8=>
 (bW l7 (aw 0 k8)).ab (fun i9=>
 (cB (be l7 (aw 0 k8) (iw i3 i1)) (ae l7)).ab (fun cf=>
 some cf))))
 (cN (aD (bq i0 (2:Int))
 (aq l7 (
 some (wt ((true,i3),(i0,i1,i2),l7))))
 (aD (bq i0 (7:Int))
 (aq l7 (
 some (wt ((true,i3),(i0,i1,i2),l7))))
 (aq l7 (
 some (wt ((bq i0 (8:Int),i3),(i0,i1,i2),l7))))))
 (fun((DX,e9),(gm,ft,jO),dn)=>
 aD (DX)
 ((nj e9 ft).ab (fun eP=>
 (cM (0:Int) (ae dn)).ab (fun AB=>
 (bW dn (aw 0 AB)).ab (fun fZ=>
 (cB (be dn (aw 0 AB) eP) (ae dn)).ab (fun iu=>
 some iu)))))
 ((cB dn (ae dn)).ab (fun eU=>
 some eU))))))))))
theorem yi {α:Type} (a b:Int) (x y:α):aD (bq a b) x y=if a=b then x else y:=by by_cases h:a=b;rw[ah h,bL (tf h)];rw[ak h,aZ (te h)]
theorem KN (a b:Int):bq a b=decide (a=b):=by by_cases h:a=b<;>simp[bq,h]
theorem agJ (a b:Int):ic a b=decide (a<=b):=rfl
theorem G9 {α:Type} (p:Prop) [Decidable p] (x y:α):aD (decide p) x y=if p then x else y:=by by_cases h:p;rw[ah h,bL (decide_eq_true h)];rw[ak h,aZ (decide_eq_false h)]
theorem nk {k p n:Int} (h:bc (k,p,n)=true):(k=1/\p=0/\n=0)\/(k=2/\kg p=true/\n=0)\/(k=3/\(1<=p/\p<=1000000)/\n=0)\/(k=4/\(1<=p/\p<=1000000)/\n=0)\/(k=5/\(1<=p/\p<=1000000)/\n=0)\/ (k=6/\p=0/\1<=n/\n<=20)\/(k=7/\kg p=true/\1<=n/\n<=6)\/(k=8/\kg p=true/\p≠2/\n=0):=by simp only[bc] at h;by_cases b:k=1;rw[ah b] at h;exact .inl ⟨b,by simpa using h⟩;rw[ak b] at h;by_cases e:k=2;rw[ah e] at h;simp at h;exact .inr (.inl ⟨e,h⟩);rw[ak e] at h;by_cases a:k=3\/k=4\/k=5;rw[ah a] at h;simp only[decide_eq_true_eq] at h;rcases a with a|a|a;exact .inr (.inr (.inl ⟨a,h⟩));exact .inr (.inr (.inr (.inl ⟨a,h⟩)));exact .inr (.inr (.inr (.inr (.inl ⟨a,h⟩))));rw[ak a] at h;by_cases d:k=6;rw[ah d] at h;simp at h;exact .inr (.inr (.inr (.inr (.inr (.inl ⟨d,h⟩)))));rw[ak d] at h;by_cases c:k=7;rw[ah c] at h;simp at h;exact .inr (.inr (.inr (.inr (.inr (.inr (.inl ⟨c,h⟩))))));rw[ak c] at h;by_cases f:k=8;rw[ah f] at h;simp at h;exact .inr (.inr (.inr (.inr (.inr (.inr (.inr ⟨f,h⟩))))));rw[ak f] at h;cases h
theorem aqK (x:Int×Int×Int) (y:Bool) (h:qW x=some y):Tw aP x=some y:=by
 obtain⟨k,p,n⟩:=x;rw[<-h];simp only[qW,Tw,bc,BB,bE,KN,agJ,G9];by_cases c:k=1
 ·rw[ah c,ah c];by_cases hp:p=0<;>by_cases hn:n=0<;>simp[hp,hn]
 rw[ak c,ak c];by_cases e:k=2
 ·rw[ah e,ah e];cases kg p<;>rfl
 rw[ak e,ak e];have hd:(if k=3 then some (wt ((true,k),k,p,n)) else if k=4 then some (wt ((true,k),k,p,n)) else some (wt ((decide (k=5),k),k,p,n)):Option (((Bool×Int)×Int×Int×Int)⊕Bool))=some (wt ((decide (k=3\/k=4\/k=5),k),k,p,n)):=by
  by_cases a:k=3
  ·simp[a]
  ·by_cases b:k=4
   ·simp[b]
   ·simp[a,b]
 rw[hd,fU];simp only[G9];by_cases a:k=3\/k=4\/k=5
 ·rw[ah a,ah a];by_cases ha:1<=p
  ·by_cases hb:p<=1000000<;>simp[ha,hb]
  ·simp[ha]
 rw[ak a,ak a];by_cases b:k=6
 ·rw[ah b,ah b];by_cases ha:p=0
  ·by_cases hb:1<=n<;>simp[ha,hb]
  ·simp[ha]
 rw[ak b,ak b];by_cases d:k=7
 ·rw[ah d,ah d];cases kg p
  ·rfl
  ·rw[bL rfl];by_cases hb:1<=n<;>simp[hb]
 rw[ak d,ak d];by_cases f:k=8
 ·rw[ah f,ah f];cases kg p
  ·rfl
  ·rw[bL rfl,axe,zb8];by_cases hb:p=2<;>simp[hb,aD]
 rw[ak f,ak f]
theorem ad9 (x:Int×Int×Int) (y:Int) (h:ov x=some y):T7 aP x=some y:=by obtain⟨k,p,n⟩:=x;rw[<-h];simp only[ov,T7,kt,yi];by_cases a:k=7;rw[ah a,ah a];rw[ak a,ak a];by_cases b:k=8<;>simp[b]
theorem ard (x:Int×Int×Int) (y:Int) (h:BH x=some y):abQ aP x=some y:=ad9 x y h
theorem aAn {n:Int} (a:0<=n) (h1:n<=60):Bc .i64 1 n=some (2^n.toNat):=by obtain⟨m,rfl⟩:=jc a;rw[aap (by omega),AT];congr 1
theorem ajL {n:Int} (h0:0<=n) (h1:n<=20):1<=(2:Int)^n.toNat/\(2:Int)^n.toNat<=1048576:=by
 have a:(2:Nat)^n.toNat<=2^20:=zaR (by decide) (by omega);have b:1<=(2:Nat)^n.toNat:=Nat.one_le_two_pow;have e:(((2:Nat)^n.toNat:Nat):Int)=(2:Int)^n.toNat:=by push_cast;rfl
 rw[<-e];omega
theorem ad8 (x:Int×Int×Int) (y:Int) (h:BF x=some y):abO aP x=some y:=by obtain⟨k,p,n⟩:=x;simp only[BF] at h;split at h;rename_i hr;rw[<-h];rcases nk hr with⟨rfl,rfl,rfl⟩|⟨rfl,hp,rfl⟩|⟨rfl,hp,rfl⟩|⟨rfl,hp,rfl⟩|⟨rfl,hp,rfl⟩|⟨rfl,rfl,hn⟩|⟨rfl,hp,hn⟩|⟨rfl,hp,iR,rfl⟩;rfl;have:=me hp;exact congrArg some n8;rfl;rfl;rfl;have h1:=ajL (n:=n) (by omega) hn.2;show(Bc .i64 1 n).ab _=_;rw[aAn (by omega) (by omega),bE,n8];rfl;have:=me hp;exact congrArg some n8;have:=me hp;exact congrArg some n8;cases h
theorem arc (x:Int×Int×Int) (y:Int) (h:BG x=some y):abP aP x=some y:=ad8 x y h
theorem zz {r:Int×Int×Int} (h:bc r=true):0<=cr r/\cr r<=1048576:=by obtain⟨k,p,n⟩:=r;rcases nk h with⟨rfl,rfl,rfl⟩|⟨rfl,hp,rfl⟩|⟨rfl,hp,rfl⟩|⟨rfl,hp,rfl⟩|⟨rfl,hp,rfl⟩|⟨rfl,rfl,hn⟩|⟨rfl,hp,hn⟩|⟨rfl,hp,iR,rfl⟩;simp[cr];have:=me hp;simp[cr];omega;simp[cr];omega;simp[cr];omega;simp[cr];omega;have h1:=ajL (n:=n) (by omega) hn.2;simp only[cr,Int.reduceEq,reduceIte,or_self];omega;have:=me hp;simp[cr];omega;have:=me hp;simp[cr];omega
theorem ku {r:Int×Int×Int} (h:bc r=true):kt r=(az r:Int)/\1<=az r/\az r<=6:=by obtain⟨k,p,n⟩:=r;rcases nk h with⟨rfl,rfl,rfl⟩|⟨rfl,hp,rfl⟩|⟨rfl,hp,rfl⟩|⟨rfl,hp,rfl⟩|⟨rfl,hp,rfl⟩|⟨rfl,rfl,hn⟩|⟨rfl,hp,hn⟩|⟨rfl,hp,iR,rfl⟩;simp[az,kt];simp[az,kt];simp[az,kt];simp[az,kt];simp[az,kt];simp[az,kt];simp[az,kt];omega;simp[az,kt]
theorem aqW (x:(Int×Int×Int)×U) (y:Bool) (h:BC x=some y):TS aP x=some y:=by obtain⟨⟨k,p,n⟩,l⟩:=x;simp only[BC] at h;split at h;rename_i b;obtain⟨hr,hl⟩:=b;rw[<-h];have hb:=zz hr;simp only[TS];rw[show BF (k,p,n)=some (cr (k,p,n)) from ah hr,bE];generalize cr (k,p,n)=t at hb⊢;rw[avq l (fun i=>(t,l,aM (ae l),(i:Int))) (pY t) (.inr false) (.inl ()) ?_ ?_ ?_ ?_ eZ];cases l.all (pY t)<;>rfl;intro i a ha hb;rw[bL (Is ha),fC,ha,bE];simp only[pY,decide_eq_true_eq] at hb;rw[aZ (d7 hb.1),aZ (d7 hb.2),Iy ha (by omega)];intro i a ha hb;rw[bL (Is ha),fC,ha,bE];simp only[pY,decide_eq_false_iff_not] at hb;by_cases c:a<0;rw[bL (eD c)];rw[aZ d7,bL eD];rw[aZ (Ir l)];rfl;cases h
theorem aqH (x:(Int×Int×Int)×U) (y:Bool) (h:xW x=some y):Tm aP x=some y:=by obtain⟨⟨k,p,n⟩,l⟩:=x;simp only[xW] at h;split at h;rename_i hl;rw[<-h];simp only[Tm,qW,ov,bE];(cases hr:bc (k,p,n) with|false=>rfl|true=>have a:=ku hr;rw[bL rfl,show BC ((k,p,n),l)=some (l.all (pY (cr (k,p,n)))) from ah ⟨hr,hl⟩,bE,yi,nl,a.1];by_cases hx:l.length=az (k,p,n);rw[ah (by rw[hx])];simp[bm,hx];rw[ak (by omega)];simp[bm,hx]);cases h
theorem ZI {w:Nat} {p:Int} (h:w=1):be (cj w (0:Int)) 0 p=[p]:=by subst h;rfl
theorem MC {r:Int×Int×Int} (hr:bc r=true):ki (kt r) (kt r) 8=some (az r):=by have a:=ku hr;rw[a.1];exact zf (by simp only[gH];omega)
theorem aea (x:Int×Int×Int) (y:U) (h:ve x=some y):T8 aP x=some y:=by obtain⟨k,p,n⟩:=x;simp only[ve] at h;split at h;rename_i hr;rw[<-h];simp only[T8,ov,bE];rw[MC hr,bE,yi];by_cases a:k=4;subst a;rw[ah rfl];rfl;rw[ak a,Io,bR,bE,fU,gT,bE];simp only[d9];rw[ak a];cases h
theorem arf (x:Int×Int×Int) (y:U) (h:JX x=some y):abR aP x=some y:=aea x y h
theorem akk {w:Nat} (h:1<=w):(cM (0:Int) w=some 0)/\bW (cj w (0:Int)) (aw 0 0)=some 0:=by obtain⟨w,rfl⟩:∃v,w=v+1:=⟨w - 1,by omega⟩;exact⟨kI (i:=0) (by omega),rfl⟩
theorem NJ {α:Type} {xs:List α} {n:Nat} (h:xs.length=n):cB xs n=some xs:=by subst h;exact gT xs
theorem aq5 (x:Int×Int×Int) (y:U) (h:qY x=some y):T4 aP x=some y:=by obtain⟨k,p,n⟩:=x;simp only[qY] at h;split at h;rename_i hr;rw[<-h];have g:=ku hr;obtain⟨e,f⟩:=akk g.2.1;have a:∀v:Int,(be (cj (az (k,p,n)) (0:Int)) (aw 0 0) v).length=az (k,p,n):=(by intro v;simp[be,cj]);simp only[T4,ov,bE];rw[MC hr,bE,show BF (k,p,n)=some (cr (k,p,n)) from ah hr];simp only[bE,e,f,yi,NJ (a _),cH];by_cases b:k=4;rw[ah b,ah b];rfl;rw[ak b,ak b];by_cases d:k=5;subst d;rw[ah rfl,ah (.inl rfl)];rfl;rw[ak d];by_cases c:k=6;rw[ah c,ah (.inr c)];rfl;rw[ak c,ak (by omega)];rfl;cases h
theorem arb (x:Int×Int×Int) (y:U) (h:Gx x=some y):Ut aP x=some y:=by
 obtain⟨k,p,n⟩:=x;simp only[Gx] at h;split at h
 ·rename_i hr;rw[<-h];have f:=ku hr;obtain⟨d,e⟩:=akk f.2.1;have b:∀v:Int,(be (cj (az (k,p,n)) (0:Int)) (aw 0 0) v).length=az (k,p,n):=by intro v;simp[be,cj]
  simp only[Ut,BH,bE];rw[MC hr,bE,Io,bR,bE,bE,yi];have hd:(if k=5 then some (wt ((true,k),(k,p,n),cj (az (k,p,n)) (0:Int))) else some (wt ((bq k 6,k),(k,p,n),cj (az (k,p,n)) 0)):Option (((Bool×Int)×(Int×Int×Int)×U)⊕U))=
    some (wt ((decide (k=5\/k=6),k),(k,p,n),cj (az (k,p,n)) 0)):=by
   by_cases a:k=5
   ·simp[a]
   ·simp[a,KN]
  rw[hd,fU];simp only[Io,G9,yi];rw[show BG (k,p,n)=some (cr (k,p,n)) from ah hr]
  simp only[bE,d,e,NJ (b _),cH];by_cases c:k=4
  ·subst c;rfl
  rw[ak c];by_cases a:k=5\/k=6
  ·rw[ah a,ah a,ak c];rfl
  rw[ak a,ak a,ak c];rfl
 ·cases h
theorem DA (w:Nat) (f:Nat->Int):(gN w f).length=w:=by simp[gN]
theorem Jp {w j:Nat} (f:Nat->Int) (h:j<w):(gN w f)[j]? =some (f j):=by simp[gN,h]
theorem tW {w:Nat} {f g:Nat->Int} (h:∀j,j<w->f j=g j):gN w f=gN w g:=IN fun j hj=>h j (zaO.1 hj)
theorem abh {w:Nat} (f:Nat->Int) (j:Nat) (v:Int):(gN w f).set j v=gN w (fun i=>if i=j then v else f i):=by apply zag;intro i;by_cases hi:i<w;rw[Jp _ hi];by_cases hj:j=i;subst hj;rw[zbk (by rw[DA];exact hi),ah rfl];rw[List.getElem?_set_ne hj,Jp _ hi,ak (fun e=>hj e.symm)];rw[BY (by rw[List.length_set,DA];omega),BY (by rw[DA];omega)]
theorem Po {x:U} {j:Nat} (h:j<x.length):x[j]? =some (cE x j):=by rw[co h];simp[cE,zaE,co h]
theorem vu {w j:Nat} (f:Nat->Int) (h:j<w):cE (gN w f) j=f j:=by simp[cE,zaE,Jp f h]
theorem NI {x:U} {w:Nat} (h:x.length=w):gN w (cE x)=x:=by subst h;apply zag;intro i;by_cases hi:i<x.length;rw[Jp _ hi,Po hi];rw[BY (by rw[DA];omega),BY (by omega)]
theorem abg (w:Nat) (c:Int):cj w c=gN w fun _=>c:=by apply zag;intro i;by_cases hi:i<w;rw[Jp _ hi];simp[cj,hi];rw[BY (by simp[cj];omega),BY (by rw[DA];omega)]
theorem ze (w:Nat) (f:Nat->Int):ae (gN w f)=w:=DA w f
theorem aoQ {w j:Nat} (f:Nat->Int) (h:j<w):cM (j:Int) (ae (gN w f))=some j:=by rw[ze];exact kI h
theorem afs {w j:Nat} (f:Nat->Int) (h:j<w):bW (gN w f) (aw 0 j)=some (f j):=by rw[mw];exact Jp f h
theorem al7 {w:Nat} (f:Nat->Int) (j:Nat) (v:Int):be (gN w f) (aw 0 j) v=gN w (fun i=>if i=j then v else f i):=by rw[mw];exact abh f j v
theorem Ww {x:U} {j:Nat} (h:j<x.length:=by omega):cV x (j:Int)=some (cE x j):=by rw[fC];exact Po h
def xR (f g:Nat->Int) (i:Nat):Nat->Int:=fun j=>if j<i then f j else g j
theorem aBk (w:Nat) (f g:Nat->Int):gN w (xR f g 0)=gN w g:=tW fun j _=>ak (by omega)
theorem aBm (w:Nat) (f g:Nat->Int):gN w (xR f g w)=gN w f:=tW fun j h=>ah h
theorem aBn (w:Nat) (f g:Nat->Int) (i:Nat):be (gN w (xR f g i)) (aw 0 i) (f i)=gN w (xR f g (i+1)):=by rw[al7];refine tW fun j _=>?_;simp only[xR];by_cases h:j=i;subst h;rw[ah rfl,ah (by omega)];rw[ak h];by_cases a:j<i;rw[ah a,ah (by omega)];rw[ak a,ak (by omega)]
theorem aBl (f g:Nat->Int) (i:Nat):xR f g i i=g i:=ak (by omega)
theorem fJ {r:Int×Int×Int} {x:U} (h:bm r x=true):x.length=az r:=by simp only[bm,so,decide_eq_true_eq] at h;exact h.1
theorem vn {r:Int×Int×Int} {x:U} (h:bm r x=true) {j:Nat} (hj:j<az r):0<=cE x j/\cE x j<=cr r:=by simp only[bm,so,decide_eq_true_eq] at h;have:=zbh.1 h.2 (cE x j) (zaw (Po (by rw[h.1];exact hj)));simpa[pY] using this
theorem KM {r:Int×Int×Int} {f:Nat->Int} (h:∀j,j<az r->0<=f j/\f j<=cr r):bm r (gN (az r) f)=true:=by simp only[bm,so,decide_eq_true_eq,DA,true_and,zbh];intro v a;obtain⟨j,hj,rfl⟩:=zbO.1 a;simpa[pY] using h j (zaO.1 hj)
theorem zW {r:Int×Int×Int} {x:U} (h:bm r x=true) (b:az r=1):x=[cE x 0]/\0<=cE x 0/\cE x 0<=cr r:=by
 have hl:=fJ h;rw[b] at hl;match x,hl with
 |[a],_=>exact⟨rfl,vn h (j:=0) (by omega)⟩
theorem vZ {a p:Int} (ha:0<=a:=by omega) (hp:0<p:=by omega):nj a p=some (a%p):=by obtain⟨m,rfl⟩:=jc (z:=p) (by omega);exact ZG ha (by omega)
theorem avE {a b:Int} (ha:0<=a/\a<=1) (hb:0<=b/\b<=1):nX a b=((a.toNat|||b.toNat:Nat):Int):=by
 have c:a=0\/a=1:=by omega
 have d:b=0\/b=1:=by omega
 rcases c with rfl|rfl<;>rcases d with rfl|rfl<;>rfl
theorem avH {a b:Int} (ha:0<=a/\a<=1) (hb:0<=b/\b<=1):iw a b=((a.toNat&&&b.toNat:Nat):Int):=by
 have c:a=0\/a=1:=by omega
 have d:b=0\/b=1:=by omega
 rcases c with rfl|rfl<;>rcases d with rfl|rfl<;>rfl
theorem axL {a b:Int} (ha:0<=a/\a<=1048576:=by omega) (hb:0<=b/\b<=1048576:=by omega):ID .i64 a b=((a.toNat|||b.toNat:Nat):Int):=by obtain⟨m,rfl⟩:=jc ha.1;obtain⟨n,rfl⟩:=jc hb.1;exact axK (by omega) (by omega)
theorem an5 {a b:Int} (ha:0<=a/\a<=1048576:=by omega) (hb:0<=b/\b<=1048576:=by omega):pG .i64 a b=((a.toNat&&&b.toNat:Nat):Int):=by obtain⟨m,rfl⟩:=jc ha.1;obtain⟨n,rfl⟩:=jc hb.1;exact UO (by omega) (by omega)
theorem Ke {r:Int×Int×Int} {a b:Int} (c:az r=1):cA r [a] [b]=[jf r a b]:=by simp only[cA,c];rfl
theorem Bg {f g:Nat->Int}:∀{n:Nat},(∀i,i<n->f i=g i)->sm n f=sm n g
 |0,_=>rfl
 |n+1,h=>by simp only[sm];rw[Bg (n:=n) (fun i hi=>h i (by omega)),h n (by omega)]
def j5 (om:Bool) (w:Nat) (x y:Nat->Int) (i j t:Nat):Int:=sm i (fun a=>sm w (fun b=>kW om x y t a b))+sm j (fun b=>kW om x y t i b)
def ky (p:Int) (om:Bool) (w:Nat) (x y:Nat->Int) (i j:Nat):U:=gN w fun t=>j5 om w x y i j t%p
theorem apq (p:Int) (om:Bool) (w:Nat) (x y:Nat->Int) (i:Nat):ky p om w x y i w=ky p om w x y (i+1) 0:=by unfold ky;refine tW fun t _=>?_;simp only[j5,sm,zcd]
theorem apn (p:Int) (om:Bool) (w:Nat) (x y:Nat->Int):ky p om w x y 0 0=cj w 0:=by rw[abg];unfold ky;exact tW fun t _=>by simp[j5,sm]
theorem apo (p:Int) (om:Bool) (w:Nat) (x y:Nat->Int):ky p om w x y w 0=wW p om w x y:=by unfold ky wW;refine tW fun t _=>?_;simp only[j5,sm,zcd]
theorem adK (a b p:Int):(a%p+b)%p=(a+b)%p:=by rw[Int.emod_add_emod]
theorem adm {p:Int} {om:Bool} {w:Nat} {x y:Nat->Int} {i j a:Nat} (v:Int) (hp:0<p) (g:i+j=a\/om=true/\i+j=a+4) (b:om=true->w=4) (hi:i<w) (hj:j<w) (h0:a<w) (m:v=(j5 om w x y i j a+kW om x y a i j)%p): be (ky p om w x y i j) (aw 0 a) v=ky p om w x y i (j+1):=by unfold ky;rw[al7];refine tW fun t cu=>?_;by_cases e:t=a;rw[ah e,m,e];congr 1;simp only[j5,sm];omega;rw[ak e];have f:kW om x y t i j=0:=(by unfold kW;have l:i+j≠t:=(by rcases g with h|⟨c,h⟩;omega;have:=b c;omega);rw[ak l,ak (fun d=>by have:=b d.1;omega)]);have k:j5 om w x y i (j+1) t=j5 om w x y i j t:=(by simp only[j5,sm,f];omega);rw[k]
theorem apr {p:Int} {om:Bool} {w:Nat} {x y:Nat->Int} {i j:Nat} (h1:w<=i+j) (b:om=false):ky p om w x y i j=ky p om w x y i (j+1):=by unfold ky;refine tW fun t cu=>?_;have c:kW om x y t i j=0:=(by unfold kW;rw[ak (by omega),ak (by simp[b])]);have a:j5 om w x y i (j+1) t=j5 om w x y i j t:=(by simp only[j5,sm,c];omega);rw[a]
theorem Iw {a b:Int} (ha:0<=a/\a<=1048576) (hb:0<=b/\b<=1048576):gY .i64 a b=a*b/\0<=a*b/\a*b<=1099511627776:=by have c:0<=a*b:=za4 ha.1 hb.1;have h1:a*b<=1048576*1048576:=zav ha.2 hb.2 hb.1 (by decide);exact⟨tK,c,by omega⟩
theorem adl {p:Int} {om:Bool} {w:Nat} {x y:Nat->Int} {i j t:Nat} (h:t<w):cM (t:Int) (ae (ky p om w x y i j))=some t/\bW (ky p om w x y i j) (aw 0 t)=some (j5 om w x y i j t%p):=⟨aoQ _ h,afs _ h⟩
structure N1 (k p:Int) (w:Nat):Prop where
 ck:k=7\/k=8
 cp:2<=p/\p<=1000003
 cw:1<=w/\w<=6
 w8:k=8->w=4
theorem D4 {k p n:Int} (h:bc (k,p,n)=true) (b:k=7\/k=8):N1 k p (az (k,p,n)):=by have a:=ku h;refine⟨b,?_,a.2,fun e=>by subst e;rfl⟩;rcases nk h with⟨rfl,rfl,rfl⟩|⟨rfl,hp,rfl⟩|⟨rfl,hp,rfl⟩|⟨rfl,hp,rfl⟩|⟨rfl,hp,rfl⟩|⟨rfl,rfl,hn⟩|⟨rfl,hp,hn⟩|⟨rfl,hp,iR,rfl⟩;all_goals first|exact me hp|(exfalso;omega)
theorem apt {k p a b:Int} {w i j:Nat} {x y:Nat->Int} (c:N1 k p w) (ha:0<=a/\a<=p) (hb:0<=b/\b<=p) (g:x i=a) (l:y j=b) (hi:i<w) (hj:j<w) (e:i+j<w): ∃v,nj (bC .i64 (j5 (decide (k=8)) w x y i j (i+j)%p) (gY .i64 a b)) p=some v/\(∀q,nj (gY .i64 a b) p=some q->nj (bC .i64 (j5 (decide (k=8)) w x y i j (i+j)%p) q) p=some v)/\ be (ky p (decide (k=8)) w x y i j) (aw 0 (i+j)) v=ky p (decide (k=8)) w x y i (j+1):=by obtain⟨LJ,sn⟩:=c.cp;obtain⟨m1,m2,m3⟩:=Iw (a:=a) (b:=b) (by omega) (by omega);have s0:=zaj (j5 (decide (k=8)) w x y i j (i+j)) (b:=p) (by omega);have s1:=zaa (j5 (decide (k=8)) w x y i j (i+j)) (b:=p) (by omega);have h:kW (decide (k=8)) x y (i+j) i j=a*b:=(by unfold kW;rw[ah rfl,g,l]);refine⟨(j5 (decide (k=8)) w x y i j (i+j)%p+a*b)%p,?_,fun q d=>?_,adm _ (by omega) (.inl rfl) (fun f=>c.w8 (of_decide_eq_true f)) hi hj e (by rw[h,adK])⟩;rw[m1,ez,vZ];rw[m1,vZ] at d;injection d with d;have q0:=zaj (a*b) (b:=p) (by omega);have q1:=zaa (a*b) (b:=p) (by omega);rw[<-d,ez,vZ,Int.add_emod_emod]
theorem aps {p a b:Int} {i j:Nat} {x y:Nat->Int} (hp:2<=p/\p<=1000003) (ha:0<=a/\a<=p) (hb:0<=b/\b<=p) (e:x i=a) (h:y j=b) (hi:i<4) (hj:j<4) (cu:4<=i+j): ∃v,nj (bC .i64 (j5 true 4 x y i j (i+j - 4)%p) (gY .i64 (jE .i64 p a) b)) p=some v/\(∀q,nj (gY .i64 a b) p=some q->nj (jE .i64 (bC .i64 (j5 true 4 x y i j (i+j - 4)%p) p) q) p=some v)/\ be (ky p true 4 x y i j) (aw 0 (i+j - 4)) v=ky p true 4 x y i (j+1):=by obtain⟨LJ,sn⟩:=hp;have hs:jE .i64 p a=p - a:=n8;obtain⟨m1,m2,m3⟩:=Iw (a:=a) (b:=b) (by omega) (by omega);obtain⟨g,n2,n3⟩:=Iw (a:=p - a) (b:=b) (by omega) (by omega);have s0:=zaj (j5 true 4 x y i j (i+j - 4)) (b:=p) (by omega);have s1:=zaa (j5 true 4 x y i j (i+j - 4)) (b:=p) (by omega);have f:kW true x y (i+j - 4) i j= -(a*b):=(by unfold kW;rw[ak (by omega),ah ⟨rfl,by omega⟩,e,h]);have d:(j5 true 4 x y i j (i+j - 4)%p+(p - a)*b)%p=(j5 true 4 x y i j (i+j - 4)+ -(a*b))%p:=(by rw[adK];rw[show j5 true 4 x y i j (i+j - 4)+(p - a)*b=j5 true 4 x y i j (i+j - 4)+ -(a*b)+p*b by rw[Int.sub_mul];omega,Int.add_mul_emod_self_left]);refine⟨(j5 true 4 x y i j (i+j - 4)%p+(p - a)*b)%p,?_,fun q c=>?_,adm _ (by omega) (.inr ⟨rfl,by omega⟩) (fun _=>rfl) hi hj (by omega) (by rw[f,d])⟩;rw[hs,g,ez,vZ];rw[m1,vZ] at c;injection c with c;have q0:=zaj (a*b) (b:=p) (by omega);have q1:=zaa (a*b) (b:=p) (by omega);rw[<-c,ez,n8,vZ,d];congr 1;rw[show j5 true 4 x y i j (i+j - 4)%p+p - a*b%p=j5 true 4 x y i j (i+j - 4)%p - a*b%p+p by omega,Int.add_emod_right,<-Int.sub_eq_add_neg,Int.sub_emod_emod,Int.emod_sub_emod]
theorem aqX (x:(Int×Int×Int)×U×U×U) (z:U) (h:DK x=some z):TW aP x=some z:=by obtain⟨⟨k,p,n⟩,l,x,y⟩:=x;simp only[DK] at h;split at h;rename_i I;obtain⟨⟨hr,D⟩,hl,hx,hy⟩:=I;rw[<-h];have c:=D4 hr D;have A:=fJ hx;have s:=fJ hy;have F:cr (k,p,n)=p - 1:=(by simp only[cr];rw[ak (by omega),ak (by omega),ak (by omega)]);have B:=fun j (hj:j<az (k,p,n))=>vn hx hj;have dW:=fun j (hj:j<az (k,p,n))=>vn hy hj;rw[F] at B dW;obtain⟨L,G⟩:=c.cp;obtain⟨hw0,hw1⟩:=c.cw;have J:dg (k,p,n) x y=wW p (decide (k=8)) (az (k,p,n)) (cE x) (cE y):=(by simp only[dg];rw[ah D]);rw[J];simp only[TW,aq];have H:ym l 0 (ae l) (cj (ae l) (0:Int))=some (cj (az (k,p,n)) 0):=(by unfold ym;rw[ah (by simp[ae])];simp[cj,ae,hl]);rw[H,bE,show ae l=az (k,p,n) from hl,Io,bR,bE];generalize az (k,p,n)=w at*;rw[gw (fun i=>((x,y,aM (ae x),(i:Int)),ky p (decide (k=8)) w (cE x) (cE y) i 0,k,p,n)) w ?a1 ?a2 ?a3 eZ];(case a3=>rw[apn];rfl);(case a2=>simp only;rw[aZ (d7 (by rw[nl,A];omega)),apo,xJ (by unfold wW;rw[ze]),bE,bE]);(case a1=>intro i hi;simp only;rw[bL (eD (by rw[nl,A];omega)),bR,bE];rw[gw (fun j=>((x,y,(i:Int),aM (ae x),(i:Int),aM (ae y),(j:Int)),ky p (decide (k=8)) w (cE x) (cE y) i j,k,p,n)) (r:=wt (((i:Int),x,y,aM (ae x)),ky p (decide (k=8)) w (cE x) (cE y) i w,k,p,n)) w ?u ?E ?b3 eZ];rw[fU];simp only;rw[bR,bE,apq,ez];rfl;(case b3=>rfl);(case E=>simp only;rw[aZ (d7 (by rw[nl,s];omega)),bR,bE,bE]);case u=>intro j hj;have u:=B i hi;have E:=dW j hj;simp only;rw[bL (eD (by rw[nl,s];omega)),Ww,bE,Ww,bE];obtain⟨m1,m2,m3⟩:=Iw (a:=cE x i) (b:=cE y j) (by omega) (by omega);obtain⟨q,g⟩:∃q,nj (gY .i64 (cE x i) (cE y j)) p=some q:=⟨_,by rw[m1,vZ]⟩;rw[g,bE,ez (a:=(i:Int)) (by omega) (by omega),ez (a:=(j:Int)) (by omega) (by omega)];rw[show(i:Int)+(j:Int)=((i+j:Nat):Int) by omega,show(j:Int)+1=((j+1:Nat):Int) by omega];rw[show ae (ky p (decide (k=8)) w (cE x) (cE y) i j)=w from ze _ _];by_cases C:i+j<w;obtain⟨v,K,o,m⟩:=apt c (a:=cE x i) (b:=cE y j) (by omega) (by omega) rfl rfl hi hj C;obtain⟨d,e⟩:=adl (p:=p) (om:=decide (k=8)) (x:=cE x) (y:=cE y) (i:=i) (j:=j) C;rw[show ae (ky p (decide (k=8)) w (cE x) (cE y) i j)=w from ze _ _] at d;rw[bL (eD (by simp only[aM];omega)),d,bE,e,bE,o q g,bE,bE,e,bE,m,show ae (ky p (decide (k=8)) w (cE x) (cE y) i (j+1))=w from ze _ _,bR,bE];rw[aZ (d7 (by simp only[aM];omega)),yi];by_cases f:k=8;obtain rfl:=c.w8 f;subst f;obtain⟨v,K,o,m⟩:=aps (p:=p) (a:=cE x i) (b:=cE y j) ⟨L,G⟩ (by omega) (by omega) rfl rfl hi hj (by omega);obtain⟨d,e⟩:=adl (p:=p) (om:=true) (w:=4) (x:=cE x) (y:=cE y) (i:=i) (j:=j) (t:=i+j - 4) (by omega);rw[show ae (ky p true 4 (cE x) (cE y) i j)=4 from ze _ _] at d;rw[ah rfl,n8 (a:=((i+j:Nat):Int)) (by omega) (by omega),show((i+j:Nat):Int) - 4=((i+j - 4:Nat):Int) by omega];simp only[decide_true];rw[d,bE,e,bE,o q g,bE,bE,e,bE,m,show ae (ky p true 4 (cE x) (cE y) i (j+1))=4 from ze _ _,bR,bE];rw[ak f,bR,bE,apr (by omega) (decide_eq_false f)]);cases h
theorem oJ {r:Int×Int×Int} {a b:Int} (h:¬(r.1=7\/r.1=8)):dg r [a] [b]=[kl r a b]:=by simp only[dg];rw[ak h];rfl
theorem Il {l:U} (h:l.length=1):∃t,l=[t]:=by
 match l,h with
 |[t],_=>exact⟨t,rfl⟩
theorem vo {r:Int×Int×Int} {x y:U} (hx:bm r x=true) (hy:bm r y=true) (c:az r=1):∃a b,x=[a]/\y=[b]/\(0<=a/\a<=cr r)/\0<=b/\b<=cr r:= ⟨_,_,(zW hx c).1,(zW hy c).1,(zW hx c).2,(zW hy c).2⟩
theorem aqY (x:(Int×Int×Int)×U×U×U) (z:U) (h:BD x=some z):N3 aP x=some z:=by obtain⟨⟨k,p,n⟩,l,x,y⟩:=x;simp only[BD] at h;split at h;rename_i e;obtain⟨hr,hl,hx,hy⟩:=e;rw[<-h];have hT:=zz hr;rcases nk hr with⟨rfl,rfl,rfl⟩|⟨rfl,hp,rfl⟩|⟨rfl,hp,rfl⟩|⟨rfl,hp,rfl⟩|⟨rfl,hp,rfl⟩|⟨rfl,rfl,hn⟩|⟨rfl,hp,hn⟩|⟨rfl,hp,iR,rfl⟩;obtain⟨a,b,rfl,rfl,c,d⟩:=vo hx hy rfl;obtain⟨t,rfl⟩:=Il (l:=l) hl;rw[oJ (by simp)];show some [iw a b]=some [_];rw[avH c d];rfl;obtain⟨a,b,rfl,rfl,c,d⟩:=vo hx hy rfl;obtain⟨t,rfl⟩:=Il (l:=l) hl;rw[oJ (by simp)];have:=me hp;have ht:cr (2,p,0)=p - 1:=rfl;obtain⟨m1,m2,f⟩:=Iw (a:=a) (b:=b) (by omega) (by omega);show(nj (gY .i64 a b) p).ab (fun q=>some [q])=some [_];rw[m1,vZ];rfl;obtain⟨a,b,rfl,rfl,c,d⟩:=vo hx hy rfl;obtain⟨t,rfl⟩:=Il (l:=l) hl;rw[oJ (by simp)];obtain⟨m1,m2,f⟩:=Iw (a:=a) (b:=b) (by omega) (by omega);show some [iw (gY .i64 a b) p]=some [_];rw[m1,AK];rfl;obtain⟨a,b,rfl,rfl,c,d⟩:=vo hx hy rfl;obtain⟨t,rfl⟩:=Il (l:=l) hl;rw[oJ (by simp)];show some [iw (bC .i64 a b) p]=some [_];rw[ez,AK];rfl;obtain⟨a,b,rfl,rfl,c,d⟩:=vo hx hy rfl;obtain⟨t,rfl⟩:=Il (l:=l) hl;rw[oJ (by simp)];show some [iw a b]=some [_];rw[AK];rfl;obtain⟨a,b,rfl,rfl,c,d⟩:=vo hx hy rfl;obtain⟨t,rfl⟩:=Il (l:=l) hl;rw[oJ (by simp)];show some [pG .i64 a b]=some [_];rw[an5];rfl;simp only[N3,KN,Int.reduceEq,decide_true,decide_false,Hc,Ha,bR,bE,fU,aq];rw[show DK ((7,p,n),l,x,y)=some (dg (7,p,n) x y) from ah ⟨⟨hr,.inl rfl⟩,hl,hx,hy⟩,bE,xJ (by rw[show ae l=_ from hl];exact ze _ _),bE];simp only[N3,KN,Int.reduceEq,decide_true,decide_false,Hc,Ha,bR,bE,fU,aq];rw[show DK ((8,p,0),l,x,y)=some (dg (8,p,0) x y) from ah ⟨⟨hr,.inr rfl⟩,hl,hx,hy⟩,bE,xJ (by rw[show ae l=_ from hl];exact ze _ _),bE];cases h
theorem avN {r:Int×Int×Int} {x y:U} (hr:bc r=true):(dg r x y).length=az r:=by obtain⟨k,p,n⟩:=r;simp only[dg];split;exact DA _ _;rename_i hk;simp only[az,kt];rw[ak (by omega),ak (by omega)];rfl
theorem aq4 (x:(Int×Int×Int)×U×U) (z:U) (h:x3 x=some z):T2 aP x=some z:=by obtain⟨⟨k,p,n⟩,x,y⟩:=x;simp only[x3] at h;split at h;rename_i a;obtain⟨hr,hx,hy⟩:=a;rw[<-h];simp only[T2,ov,bE];rw[MC hr,bE,Io,bR,bE,show BD ((k,p,n),cj (az (k,p,n)) 0,x,y)=some (dg (k,p,n) x y) from ah ⟨hr,Io _ _,hx,hy⟩,bE,NJ (avN hr),bE];cases h
theorem rh {r:Int×Int×Int} (hr:bc r=true):bm r (d9 r)=true:=by have a:=zz hr;obtain⟨k,p,n⟩:=r;simp only[d9];split;rename_i b;subst b;simp[bm,az,kt,cr,pY];simp[cr] at a;omega;rw[abg];exact KM fun j _=>⟨zbD _,a.1⟩
theorem QY (k p n:Int):cH (k,p,n)=gN (az (k,p,n)) fun j=>if j=0 then(if k=4 then 0 else if k=5\/k=6 then cr (k,p,n) else 1) else 0:=by simp only[cH];rw[abg];exact abh _ 0 _
theorem abm {k p n:Int} (hr:bc (k,p,n)=true):1<=cr (k,p,n):=by rcases nk hr with⟨rfl,rfl,rfl⟩|⟨rfl,hp,rfl⟩|⟨rfl,hp,rfl⟩|⟨rfl,hp,rfl⟩|⟨rfl,hp,rfl⟩|⟨rfl,rfl,hn⟩|⟨rfl,hp,hn⟩|⟨rfl,hp,iR,rfl⟩;simp[cr];have:=me hp;simp[cr];omega;simp[cr];omega;simp[cr];omega;simp[cr];omega;have a:(2:Nat)^1<=2^n.toNat:=zaR (by decide) (by omega);have e:(((2:Nat)^n.toNat:Nat):Int)=(2:Int)^n.toNat:=(by push_cast;rfl);simp only[cr,Int.reduceEq,reduceIte,or_self];omega;have:=me hp;simp[cr];omega;have:=me hp;simp[cr];omega
theorem kA {r:Int×Int×Int} (hr:bc r=true):bm r (cH r)=true:=by obtain⟨k,p,n⟩:=r;have h1:=abm hr;rw[QY];refine KM fun j _=>?_;split;split;omega;split<;>omega;omega
theorem axC {r:Int×Int×Int} (hr:bc r=true) {a b:Int} (ha:0<=a/\a<=cr r) (hb:0<=b/\b<=cr r):0<=jf r a b/\jf r a b<=cr r:=by have hT:=zz hr;obtain⟨k,p,n⟩:=r;have d:∀c:Int,2<=p->0<=c%p/\c%p<=p - 1:=fun c h=>(by have q0:=zaj c (b:=p) (by omega);have q1:=zaa c (b:=p) (by omega);omega);rcases nk hr with⟨rfl,rfl,rfl⟩|⟨rfl,hp,rfl⟩|⟨rfl,hp,rfl⟩|⟨rfl,hp,rfl⟩|⟨rfl,hp,rfl⟩|⟨rfl,rfl,hn⟩|⟨rfl,hp,hn⟩|⟨rfl,hp,iR,rfl⟩;have e:cr (1,0,0)=1:=rfl;rw[e] at ha hb⊢;have g:a=0\/a=1:=(by omega);have f:b=0\/b=1:=(by omega);rcases g with rfl|rfl<;>rcases f with rfl|rfl<;>decide;exact d _ (me hp).1;have e:cr (3,p,0)=p:=rfl;have o:jf (3,p,0) a b=min (a+b) p:=rfl;omega;have o:jf (4,p,0) a b=min a b:=rfl;omega;have o:jf (5,p,0) a b=max a b:=rfl;omega;have e:cr (6,0,n)=2^n.toNat - 1:=rfl;have o:jf (6,0,n) a b=((a.toNat|||b.toNat:Nat):Int):=rfl;have e2:(((2:Nat)^n.toNat:Nat):Int)=(2:Int)^n.toNat:=(by push_cast;rfl);have:=Nat.or_lt_two_pow (n:=n.toNat) (x:=a.toNat) (y:=b.toNat) (by omega) (by omega);omega;exact d _ (me hp).1;exact d _ (me hp).1
theorem tc {r:Int×Int×Int} {x y:U} (hr:bc r=true) (hx:bm r x=true) (hy:bm r y=true):bm r (cA r x y)=true:= KM fun _ hj=>axC hr (vn hx hj) (vn hy hj)
theorem axH {r:Int×Int×Int} (hr:bc r=true) (f:¬(r.1=7\/r.1=8)) {a b:Int} (ha:0<=a/\a<=cr r) (hb:0<=b/\b<=cr r):0<=kl r a b/\kl r a b<=cr r:=by have hT:=zz hr;obtain⟨k,p,n⟩:=r;simp only at f;rcases nk hr with⟨rfl,rfl,rfl⟩|⟨rfl,hp,rfl⟩|⟨rfl,hp,rfl⟩|⟨rfl,hp,rfl⟩|⟨rfl,hp,rfl⟩|⟨rfl,rfl,hn⟩|⟨rfl,hp,hn⟩|⟨rfl,hp,iR,rfl⟩;have e:cr (1,0,0)=1:=rfl;rw[e] at ha hb⊢;have d:a=0\/a=1:=(by omega);have c:b=0\/b=1:=(by omega);rcases d with rfl|rfl<;>rcases c with rfl|rfl<;>decide;have:=me hp;have o:kl (2,p,0) a b=a*b%p:=rfl;have e:cr (2,p,0)=p - 1:=rfl;have q0:=zaj (a*b) (b:=p) (by omega);have q1:=zaa (a*b) (b:=p) (by omega);omega;have e:cr (3,p,0)=p:=rfl;have o:kl (3,p,0) a b=min (a*b) p:=rfl;have:=za4 ha.1 hb.1;omega;have o:kl (4,p,0) a b=min (a+b) p:=rfl;have e:cr (4,p,0)=p:=rfl;omega;have o:kl (5,p,0) a b=min a b:=rfl;omega;have o:kl (6,0,n) a b=((a.toNat&&&b.toNat:Nat):Int):=rfl;have:=Nat.and_le_left (n:=a.toNat) (m:=b.toNat);omega;omega;omega
theorem td {r:Int×Int×Int} {x y:U} (hr:bc r=true) (hx:bm r x=true) (hy:bm r y=true):bm r (dg r x y)=true:=by by_cases d:r.1=7\/r.1=8;simp only[dg];rw[ah d];obtain⟨k,p,n⟩:=r;have c:=D4 hr d;have g:cr (k,p,n)=p - 1:=(by simp only at d;simp only[cr];rw[ak (by omega),ak (by omega),ak (by omega)]);refine KM fun j _=>?_;rw[g];have:=c.cp;have m:=zaj (sm (az (k,p,n)) fun i=>sm (az (k,p,n)) fun e=>kW (decide (k=8)) (cE x) (cE y) j i e) (b:=p) (by omega);have l:=zaa (sm (az (k,p,n)) fun i=>sm (az (k,p,n)) fun e=>kW (decide (k=8)) (cE x) (cE y) j i e) (b:=p) (by omega);exact⟨m,Int.le_sub_one_of_lt l⟩;have f:az r=1:=(by obtain⟨k,p,n⟩:=r;simp only at d;simp only[az,kt];rw[ak (by omega),ak (by omega)];rfl);obtain⟨a,b,rfl,rfl,h,o⟩:=vo hx hy f;rw[oJ d];have:=axH hr d h o;simp[bm,f,pY,this]
theorem qz {r:Int×Int×Int} {x:U} (hr:bc r=true) (hx:bm r x=true):∀n,bm r (iB r x n)=true
 |0=>kA hr
 |n+1=>td hr (qz hr hx n) hx
theorem aq7 (x:(Int×Int×Int)×U×Int) (z:U) (h:x4 x=some z):T6 aP x=some z:=by obtain⟨⟨k,p,n⟩,x,m⟩:=x;simp only[x4] at h;split at h;rename_i b;obtain⟨⟨hr,hx⟩,a,jS⟩:=b;obtain⟨m,rfl⟩:=jc a;rw[<-h];simp only[T6,aq];rw[show qY (k,p,n)=some (cH (k,p,n)) from ah hr,bE,bR,bE];rw[gw (fun i=>((x,(m:Int),(i:Int)),(k,p,n),iB (k,p,n) x i)) (r:=wt (iB (k,p,n) x m)) m ?a1 ?a2 ?a3 eZ];rw[fU,gT,bE,AT];(case a3=>rfl);(case a2=>simp only;rw[aZ (d7 (zbD _)),bR,bE,bE]);(case a1=>intro i hi;simp only;rw[bL eD,fP,bE,show x3 ((k,p,n),iB (k,p,n) x i,x)=some (dg (k,p,n) (iB (k,p,n) x i) x) from ah ⟨hr,qz hr hx i,hx⟩,bE,bR,bE,ez];rfl);cases h
theorem aqF (x:(Int×Int×Int)×Int) (z:U) (h:xV x=some z):Tk aP x=some z:=by obtain⟨⟨k,p,n⟩,m⟩:=x;rw[<-h];simp only[xV,Tk,qW,bE,OR,aq];cases hr:bc (k,p,n) with|false=>rfl|true=>rw[aZ axn];by_cases hm:m<0;rw[bL (eD hm),ak (by omega)];rw[aZ d7,ah ⟨rfl,by omega⟩,yi];by_cases c:m=0;rw[ah c,show ve (k,p,n)=some (d9 (k,p,n)) from ah hr,bE,gT,bE,il,ah c];rw[ak c,show qY (k,p,n)=some (cH (k,p,n)) from ah hr,bE,il,ak c];simp only[s9];have hw:=ku hr;have b:∀v,cM (0:Int) (ae (cH (k,p,n)))=some 0/\bW (cH (k,p,n)) (aw 0 0)=some (cE (cH (k,p,n)) 0)/\cB (be (cH (k,p,n)) (aw 0 0) v) (ae (cH (k,p,n)))=some (be (cH (k,p,n)) 0 v):=(by intro v;have hl:(cH (k,p,n)).length=az (k,p,n):=fJ (kA hr);refine⟨kI (i:=0) (by unfold ae;omega),Po (j:=0) (by omega),NJ (by simp[be,ae,aw])⟩);by_cases d:k=3;rw[ah d,bL (tf d)];simp only[(b (min m p)).1,(b (min m p)).2.1,(b (min m p)).2.2,bE,AK];rw[ak d,aZ (te d)];have hd:aD (bq k 2) ((bh 0 (ae (cH (k,p,n))) (ae (cH (k,p,n)))).ab fun _=>some (wt ((true,m),(k,p,n),cH (k,p,n)))) (aD (bq k 7) ((bh 0 (ae (cH (k,p,n))) (ae (cH (k,p,n)))).ab fun _=>some (wt ((true,m),(k,p,n),cH (k,p,n)))) ((bh 0 (ae (cH (k,p,n))) (ae (cH (k,p,n)))).ab fun _=>some (wt ((bq k 8,m),(k,p,n),cH (k,p,n)))):Option (((Bool×Int)×(Int×Int×Int)×U)⊕U))= some (wt ((decide (k=2\/k=7\/k=8),m),(k,p,n),cH (k,p,n))):=(by rw[bR];simp only[bE,KN,G9];by_cases a:k=2;simp[a];by_cases e:k=7;simp[e];simp[a,e]);rw[hd,fU];simp only[G9];by_cases a:k=2\/k=7\/k=8;(·rw[ah a,ah a];have hp:2<=p:=(by rcases nk hr with⟨rfl,rfl,rfl⟩|⟨rfl,hp,rfl⟩|⟨rfl,hp,rfl⟩|⟨rfl,hp,rfl⟩|⟨rfl,hp,rfl⟩|⟨rfl,rfl,hn⟩|⟨rfl,hp,hn⟩|⟨rfl,hp,iR,rfl⟩;all_goals first|exact(me hp).1|(exfalso;omega));rw[vZ,bE];simp only[(b (m%p)).1,(b (m%p)).2.1,(b (m%p)).2.2,bE]);rw[ak a,ak a,gT,bE]
def ch:Nat->Nat->Nat
 |_,0=>1
 |0,_+1=>0
 |n+1,k+1=>ch n k+ch n (k+1)
theorem OD:∀{n k:Nat},n<k->ch n k=0
 |0,k+1,_=>by simp[ch]
 |n+1,k+1,h=>by simp[ch,OD (show n<k by omega),OD (show n<k+1 by omega)]
theorem Kt (n:Nat):ch n 0=1:=by cases n<;>rfl
theorem acJ:∀n,ch n n=1
 |0=>rfl
 |n+1=>by simp[ch,acJ n,OD (zbS n)]
theorem OE:∀(n k:Nat),(k+1)*ch (n+1) (k+1)=(n+1)*ch n k
 |0,0=>by simp[ch]
 |0,k+1=>by simp[ch]
 |n+1,0=>by have h:=OE n 0;simp only[Kt] at h⊢;have e:ch (n+1+1) (0+1)=ch (n+1) 0+ch (n+1) (0+1):=rfl;rw[e,Kt];omega
 |n+1,k+1=>by have h1:=OE n k;have h2:=OE n (k+1);have a:ch (n+1+1) (k+1+1)=ch (n+1) (k+1)+ch (n+1) (k+1+1):=rfl;have b:ch (n+1) (k+1)=ch n k+ch n (k+1):=rfl;rw[a];generalize ch (n+1) (k+1+1)=B at*;generalize ch (n+1) (k+1)=A at*;generalize ch n k=u at*;generalize ch n (k+1)=v at*;subst b;grind
def sR (f:Nat->Nat):Nat->Nat
 |0=>0
 |m+1=>sR f m+f m
theorem amZ (n a:Nat):∀m,sR (fun k=>ch (n+1) k*a^k) (m+1)=sR (fun k=>ch n k*a^k) (m+1)+a*sR (fun k=>ch n k*a^k) m
 |0=>by simp[sR,Kt]
 |m+1=>by have h:=amZ n a m;simp only[sR] at h⊢;have e:ch (n+1) (m+1)=ch n m+ch n (m+1):=rfl;rw[h,e,zbu];grind
theorem acv (a:Nat):∀n,(a+1)^n=sR (fun k=>ch n k*a^k) (n+1)
 |0=>by simp[sR,Kt]
 |n+1=>by rw[amZ];have e:sR (fun k=>ch n k*a^k) (n+1+1)=sR (fun k=>ch n k*a^k) (n+1):=(by show sR _ (n+1)+ch n (n+1)*a^(n+1)=_;rw[OD (zbS n)];simp);rw[e,<-acv a n,zbu];grind
theorem amY {p:Nat} {f:Nat->Nat}:∀m,(∀k,0<k->k<=m->p∣f k)->sR f (m+1)%p=f 0%p
 |0,h=>by simp[sR]
 |m+1,h=>by have i:=amY m fun k a h2=>h k a (by omega);obtain⟨c,b⟩:=h (m+1) (by omega) (Pd _);show(sR f (m+1)+f (m+1))%p=_;rw[b,za5,i]
def DQ (p:Nat):Prop:=2<=p/\∀d,d∣p->d=1\/d=p
theorem DQ.Hh {p a:Nat} (hp:DQ p) (h:¬p∣a):Nat.Coprime p a:=by have:=hp.2 (Nat.gcd p a) (Nat.gcd_dvd_left p a);rcases this with b|b;exact b;exact absurd (b▸Nat.gcd_dvd_right p a) h
theorem DQ.ch {p k:Nat} (hp:DQ p) (h1:0<k) (h2:k<p):p∣ch p k:=by obtain⟨q,rfl⟩:∃q,p=q+1:=⟨p - 1,by omega⟩;obtain⟨j,rfl⟩:∃j,k=j+1:=⟨k - 1,by omega⟩;have hm:=OE q j;have hd:(q+1)∣(j+1)*Go.Am.ch (q+1) (j+1):=⟨Go.Am.ch q j,hm⟩;exact(hp.Hh fun h=>absurd (zb9 (by omega) h) (by omega)).dvd_of_dvd_mul_left hd
theorem aeb {p:Nat} (hp:DQ p):∀a,a^p%p=a%p
 |0=>by rw[Nat.zero_pow (by have:=hp.1;omega)]
 |a+1=>by rw[acv];show(sR _ p+Go.Am.ch p p*a^p)%p=_;obtain⟨q,rfl⟩:∃q,p=q+1:=⟨p - 1,by have:=hp.1;omega⟩;have h:=amY (p:=q+1) (f:=fun k=>Go.Am.ch (q+1) k*a^k) q fun k b h2=>zbK (hp.ch b (by omega)) (Nat.dvd_mul_right _ _);rw[acJ,zaZ,zb2,h,aeb hp a];simp only[Kt,Nat.pow_zero,zcj];rw[<-zb2,zbQ]
theorem arh {p a:Nat} (hp:DQ p) (ha:¬p∣a):a*a^(p - 2)%p=1:=by have h2:=hp.1;have h:=aeb hp a;have e:a^p=a*(a*a^(p - 2)):=(by obtain⟨q,rfl⟩:∃q,p=q+2:=⟨p - 2,by omega⟩;rw[zbu,zbu,zbL];rw[zah a (a^q),zah a (a^q*a)]);rw[e] at h;have b:0<a:=(by rcases za1 a with h|h;subst h;exact absurd ⟨0,by simp⟩ ha;exact h);have d:0<a*a^(p - 2):=zb1 b (Nat.pow_pos b);generalize a*a^(p - 2)=z at h d⊢;obtain⟨y,rfl⟩:∃y,z=y+1:=⟨z - 1,by omega⟩;have hd:p∣a*y:=(by have e:a*(y+1)=a*y+a:=(by rw[Nat.mul_add,zcj]);rw[e] at h;have:(a*y+a - a)%p=0:=Nat.sub_mod_eq_zero_of_mod_eq h;rw[zbL] at this;exact zay this);obtain⟨c,rfl⟩:=(hp.Hh ha).dvd_of_dvd_mul_left hd;rw[zbQ,za5];exact zar (by omega)
theorem ato {p:Int} (h:kg p=true):DQ p.toNat:=by have hp:=me h;obtain⟨n,rfl⟩:=jc (show 0<=p by omega);simp only[AT];refine⟨by omega,fun d hd=>?_⟩;rcases zaP d 2 with g|g;rcases za1 d with c|c;subst c;have:=Nat.eq_zero_of_zero_dvd hd;omega;exact .inl (by omega);obtain⟨e,i⟩:=hd;simp only[kg,so,decide_eq_true_eq,za6,zbM] at h;have k:∀a b:Nat,2<=a->2<=b->a<=b->n≠a*b:=(by intro a b ha hb l e;have h1:a*a<=n:=(by rw[e];exact zbE _ l);have f:a<1001:=(by rcases zaP a 1001 with h|h;exact h;have:=zb5 h h;omega);refine h.2 a (by simp;omega) ?_;unfold wZ;have ea:((a:Int))*(a:Int)=((a*a:Nat):Int):=(by norm_cast);simp only[so,decide_eq_true_eq];constructor;rw[ea];omega;rw[e];push_cast;exact Int.mul_emod_right _ _);right;rcases zaP e 2 with f|f;have:e=1:=(by rcases za1 e with c|c;subst c;simp at i;omega;omega);subst this;omega;exfalso;rcases Nat.le_total d e with j|j;exact k d e g f j i;exact k e d f g j (by rw[i,zah])
theorem ajM (x:Int) (b:Nat):∀m:Nat,(x*x)^m*x^b=x^(2*m+b)
 |0=>by simp
 |m+1=>by have a:=ajM x b m;rw[show 2*(m+1)+b=2*m+b+1+1 by omega,zaD,zaD (n:=2*m+b+1),zaD (n:=2*m+b),<-a];grind
theorem atg {p:Int} (hp:sK p):∀(n:Nat) (out x:Int),yV p out x n%p=out*x^n%p:=by intro n;induction n using Nat.strongRecOn with|ind n a=>intro out x;by_cases c:n=0;subst c;rw[atf];simp;rw[ath c,a (n/2) (by omega)];have e:x^n=(x*x)^(n/2)*x^(n%2):=(by rw[ajM,zaY]);rw[e];have b:((x*x%p)^(n/2))%p=((x*x)^(n/2))%p:=(by have:∀k:Nat,((x*x%p)^k)%p=((x*x)^k)%p:=(by intro k;induction k with|zero=>simp|succ k a=>rw[zaD,zaD,zac,a,zaJ,<-zac]);exact this _);by_cases hb:n%2=1;rw[ah hb,hb,zac,b,zaJ,<-zac];congr 1;grind;rw[ak hb,show n%2=0 by omega,zac,b,<-zac];congr 1;grind
theorem atl {p x:Int} (b:kg p=true) (hx:vM p x) (h0:x≠0):x*yV p 1 x (p - 2).toNat%p=1:=by have hp:=me b;have d:sK p:=⟨hp.1,hp.2⟩;obtain⟨n,rfl⟩:=jc (show 0<=p by omega);obtain⟨a,rfl⟩:=jc hx.1;have c:=ato b;simp only[AT] at c;have ha:¬n∣a:=fun h=>(by have:=zb9 (by omega) h;have:=hx.2;omega);have f:=arh c ha;have e:(((n:Int)) - 2).toNat=n - 2:=(by omega);rw[zac,atg d,e,zbX,<-zac];exact_mod_cast f
def j6 (f g:Nat->Int):Nat->Int
 |0=>0
 |n+1=>j6 f g n+f n*g n
theorem amU {p:Int} {f f' g:Nat->Int}:∀n,(∀k,k<n->∃q,f k=f' k+p*q)->∃q,j6 f g n=j6 f' g n+p*q
 |0,_=>⟨0,by simp[j6]⟩
 |n+1,h=>by obtain⟨q,a⟩:=amU (g:=g) n fun k hk=>h k (by omega);obtain⟨c,b⟩:=h n (by omega);exact⟨q+c*g n,by simp only[j6,a,b];grind⟩
theorem aa6 (f a g:Nat->Int) (c:Int):∀n,j6 (fun k=>f k+c*a k) g n=j6 f g n+c*j6 a g n
 |0=>by simp[j6]
 |n+1=>by simp only[j6,aa6 f a g c n];grind
theorem SD (f g a:Nat->Int) (c:Int):∀n,j6 f (fun k=>g k - c*a k) n=j6 f g n - c*j6 f a n
 |0=>by simp[j6]
 |n+1=>by simp only[j6,SD f g a c n];grind
theorem aa7 (f g:Nat->Int) (c:Int):∀n,j6 (fun k=>f k*c) g n=j6 f g n*c
 |0=>by simp[j6]
 |n+1=>by simp only[j6,aa7 f g c n];grind
theorem aa8 (f g:Nat->Int) (c:Int):∀n,j6 f (fun k=>g k*c) n=j6 f g n*c
 |0=>by simp[j6]
 |n+1=>by simp only[j6,aa8 f g c n];grind
def dl (a b:Nat):Int:=if a=b then 1 else 0
def qm (p:Int) (n:Nat) (E X:fu):Prop:=∀a,a<n->∀b,b<n->∃q,j6 (E a) (fun k=>X k b) n=dl a b+p*q
theorem qm.congr {p:Int} {n:Nat} {E c X:fu} (h:qm p n E X) (d:∀a,a<n->∀k,k<n->∃q,c a k=E a k+p*q):qm p n c X:=by intro a ha b hb;obtain⟨q,e⟩:=h a ha b hb;obtain⟨j,i⟩:=amU (p:=p) (f:=c a) (f':=E a) (g:=fun k=>X k b) n (d a ha);exact⟨q+j,by rw[i,e];grind⟩
theorem qm.swap {p:Int} {n:Nat} {E X:fu} (h:qm p n E X) {s t:Nat} (hs:s<n) (m:t<n):∃l,qm p n (tU E s t) l:=by
 let c:Nat->Nat:=fun i=>if i=s then t else if i=t then s else i
 have f:∀i,i<n->c i<n:=by
  intro i hi;show(if i=s then t else if i=t then s else i)<n
  split
  ·exact m
  ·split
   ·exact hs
   ·exact hi
 have o:∀i j,c i=c j->i=j:=by
  intro i j;show(if i=s then t else if i=t then s else i)=(if j=s then t else if j=t then s else j)->i=j
  intro h
  repeat' split at h
  all_goals omega
 refine⟨fun k b=>X k (c b),fun a ha b hb=>?_⟩;obtain⟨q,g⟩:=h (c a) (f a ha) (c b) (f b hb);refine⟨q,?_⟩;have e:tU E s t a=E (c a):=by
  funext k;show(if a=s then E t k else if a=t then E s k else E a k)=E (if a=s then t else if a=t then s else a) k
  split
  ·rfl
  ·split<;>rfl
 rw[e,g];congr 1;unfold dl;by_cases d:a=b
 ·subst d;simp
 ·rw[ak d,ak fun h=>d (o _ _ h)]
theorem qm.az3 {p inv u:Int} {n:Nat} {E X:fu} (h:qm p n E X) {t:Nat} (ht:t<n) (hu:u*inv%p=1):∃i,qm p n (FJ p inv E t) i:=by
 have g:∃z,u*inv=1+p*z:=⟨u*inv/p,by have:=zaQ (u*inv) p;omega⟩;obtain⟨z,hz⟩:=g;refine⟨fun k b=>if b=t then X k t*u else X k b,qm.congr (E:=fun a k=>if a=t then E t k*inv else E a k) (fun a ha b hb=>?_) (fun a ha k hk=>?_)⟩
 ·obtain⟨q,f⟩:=h a ha b hb;by_cases c:a=t
  ·subst c;by_cases d:b=a
   ·subst d;refine⟨z+q*inv*u,?_⟩;simp only[if_true];rw[aa7,aa8,f,dl,ah rfl]
    grind
   ·refine⟨q*inv,?_⟩;simp only[if_true,ak d];rw[aa7,f,dl,ak (Ne.symm d)]
    grind
  ·by_cases d:b=t
   ·subst d;refine⟨q*u,?_⟩;simp only[ak c,if_true];rw[aa8];have:j6 (fun k=>E a k) (fun k=>X k b) n=dl a b+p*q:=f;rw[this,dl,ak c]
    grind
   ·refine⟨q,?_⟩;simp only[ak c,ak d];exact f
 ·unfold FJ;by_cases c:a=t
  ·simp only[c,if_true];refine⟨-(E t k*inv/p),?_⟩;have:=zaQ (E t k*inv) p;have e:p* -(E t k*inv/p)= -(p*(E t k*inv/p)):=zck _ _;omega
  ·simp only[c,if_false];exact⟨0,by simp⟩
theorem qm.add {p f:Int} {n:Nat} {E u X:fu} (h:qm p n E X) {m t:Nat} (hm:m<n) (v:t<n) (x:m≠t) (C:∀a,a<n->∀k,k<n->∃q,u a k=(if a=m then E m k+f*E t k else E a k)+p*q):∃F,qm p n u F:=by
 refine⟨fun k b=>if b=t then X k t - f*X k m else X k b,qm.congr (E:=fun a k=>if a=m then E m k+f*E t k else E a k) (fun a ha b hb=>?_) C⟩
 obtain⟨e,D⟩:=h a ha b hb;obtain⟨j,B⟩:=h t v b hb;obtain⟨l,H⟩:=h a ha m hm;obtain⟨s,A⟩:=h t v m hm;have i:j6 (fun k=>E a k) (fun k=>X k b) n=dl a b+p*e:=D;have w:j6 (fun k=>E t k) (fun k=>X k b) n=dl t b+p*j:=B;have r:j6 (fun k=>E a k) (fun k=>X k m) n=dl a m+p*l:=H;have o:j6 (fun k=>E t k) (fun k=>X k m) n=dl t m+p*s:=A;have z:dl t m=0:=ak (Ne.symm x);by_cases g:a=m
 ·subst g;have G:dl a a=1:=ah rfl;by_cases c:b=t
  ·subst c;have d:dl a b=0:=ak x;have y:dl b b=1:=ah rfl;refine⟨e+f*j - f*l - f*f*s,?_⟩;simp only[if_true];rw[aa6,SD,SD,i,w,r,o,z,G,d,y]
   grind
  ·refine⟨e+f*j,?_⟩;have d:dl t b=0:=ak (Ne.symm c);simp only[if_true,ak c];rw[aa6,i,w,d]
   grind
 ·by_cases c:b=t
  ·subst c;have d:dl a m=0:=ak g;refine⟨e - f*l,?_⟩;simp only[ak g,if_true];rw[SD,i,r,d]
   grind
  ·refine⟨e,?_⟩;simp only[ak g,ak c];exact i
def RK (p:Int) (n:Nat) (s:fu×U×Int) (j:Nat):Prop:=
 (∃X,qm p n (fun a k=>s.1 a (n+k)) X)/\∀b,b<j->∀i,s.2.1.length<=i->i<n->s.1 i b=0
theorem RK.step {p:Int} {n:Nat} {s:fu×U×Int} {j:Nat} (K:kg p=true) (hj:j<2*n) (I:RI p n (2*n) s j) (h:RK p n s j):RK p n (AY p n s j) (j+1):=by
 have hp:sK p:=me K;obtain⟨⟨X,v⟩,g⟩:=h;obtain⟨M,L,d⟩:=s;simp only at v g;by_cases hl:L.length<n
 ·cases hk:AU M j (n - L.length) L.length with
  |none=>
   rw[azj (s:=(M,L,d)) hl hk];refine⟨⟨X,v⟩,fun b hb i e l=>?_⟩;by_cases w:b=j
   ·subst w;exact ajF hk i e (by simp only at e;omega)
   ·exact g b (by omega) i e l
  |some k=>
   rw[azk (s:=(M,L,d)) hl hk];simp only
   have G:=Zp hk;have r:k<n:=by omega
   have H:uQ p n (2*n) M:=I.m;have hx:vM p (M k j):=H k r j hj;have O:tU M L.length k L.length j=M k j:=ah rfl;have hi:=atl K hx G.2.2;generalize ar2:yV p 1 (M k j) (p - 2).toNat=inv at hi;have z:MU p M L.length j k=FJ p inv (tU M L.length k) L.length:=by unfold MU;rw[O,ar2]
   rw[z];have Q:uQ p n (2*n) (tU M L.length k):=am0 H hl r;generalize HD:FJ p inv (tU M L.length k) L.length=M2;have aB0:uQ p n (2*n) M2:=by rw[<-HD];exact al0 hp Q _
   constructor
   ·obtain⟨X1,C⟩:=v.swap (s:=L.length) (t:=k) hl r;obtain⟨J,A⟩:=C.az3 (inv:=inv) (u:=M k j) hl hi;have DZ:qm p n (fun a b=>mV p M2 L.length j 0 a (n+b)) J:=by
     rw[aoS,<-HD];exact A
    have R:∀m,m<=n->∃y,qm p n (fun a b=>mV p M2 L.length j m a (n+b)) y:=by
     intro m;induction m with
     |zero=>intro _;exact⟨J,DZ⟩
     |succ m P=>
      intro hm;obtain⟨y,o⟩:=P (by omega);by_cases D:m=L.length
      ·subst D;rw[aoV];exact⟨y,o⟩
      ·refine o.add (f:=p - M2 m j) (m:=m) (t:=L.length) (by omega) hl D fun a ha b hb=>?_;show∃q,mV p M2 L.length j (m+1) a (n+b)=_;by_cases F:a=m
       ·subst F;rw[ah rfl];show∃q,mV p M2 L.length j (a+1) a (n+b)=(mV p M2 L.length j a a (n+b)+(p - M2 a j)*mV p M2 L.length j a L.length (n+b))+p*q;rw[aoU,aoW];unfold mV;rw[ah ⟨by omega,D⟩];refine⟨-((M2 a (n+b)+(p - M2 a j)*M2 L.length (n+b))/p),?_⟩;have e1:=zaQ (M2 a (n+b)+(p - M2 a j)*M2 L.length (n+b)) p;have N:=zck p ((M2 a (n+b)+(p - M2 a j)*M2 L.length (n+b))/p);omega
       ·rw[ak F];refine⟨0,?_⟩;show mV p M2 L.length j (m+1) a (n+b)=mV p M2 L.length j m a (n+b)+p*0;unfold mV;by_cases B:a<m/\a≠L.length
        ·rw[ah B,ah ⟨by omega,B.2⟩];simp
        ·rw[ak B,ak (by omega)];simp
    exact R n (Pd _)
   ·intro b hb i e l;simp only[Pe,IS,zax] at e;show mV p M2 L.length j n i b=0;unfold mV;rw[ah ⟨l,by omega⟩];have N:∀c,M2 i c=tU M L.length k i c:=fun c=>by rw[<-HD];exact ak (by omega)
    have E:∀c,M2 L.length c=M k c*inv%p:=fun c=>by rw[<-HD];show(if L.length=L.length then _ else _)=_;rw[ah rfl];congr 2;exact ah rfl
    by_cases w:b=j
    ·subst w;rw[E b,hi];have:M2 i b+(p - M2 i b)*1=p:=by omega
     rw[this];exact Int.emod_self
    ·have x:b<j:=by omega
     rw[E b,g b x k G.1 r,N b];have:tU M L.length k i b=0:=by
      unfold tU;rw[ak (by omega)];split
      ·exact g b x L.length (Pd _) hl
      ·exact g b x i (by omega) l
     rw[this];simp
 ·unfold AY;rw[ak hl];exact⟨⟨X,v⟩,fun b hb i e l=>by simp only at e;omega⟩
def aBH (n:Nat) (M:fu):fu:=fun a b=>if b<n then M a b else dl a (b - n)
def aBI (n:Nat) (M:fu):fu:=ofD (2*n) (afp n (2*n) (aBH n M))
def age (p:Int) (n:Nat) (M:fu):fu×U×Int:=akg p n (aBI n M) (2*n)
def ati (p:Int) (n:Nat) (M:fu):Prop:=∀i,i<n->(age p n M).2.1.getD i 0=(i:Int)
instance (p:Int) (n:Nat) (M:fu):Decidable (ati p n M):=inferInstanceAs (Decidable (∀i,i<n->(age p n M).2.1.getD i 0=(i:Int)))
section
variable {p:Int} {n:Nat} {M R:fu} {L:U}
end
abbrev nv:=Int×Int×U
abbrev S5:=Int×Int×U×List (Int×Int×U)×U
def SY (k:Nat) (w:U):Prop:=∀c∈w,0<=c/\c<(k:Int)
instance (k:Nat) (w:U):Decidable (SY k w):=inferInstanceAs (Decidable (∀c∈w,0<=c/\c<(k:Int)))
def aok (x:S5):Bool:=match x with
 |(m,n,a,ms,b)=>kg m&&(decide (0<=n/\n<=24)&&((Ri m a&&decide ((a.length:Int)=n))&&((Ri m b&&decide ((b.length:Int)=n))&&(decide (1<=ms.length/\ms.length<=4)&&ms.all fun y=>decide (y.1=n/\y.2.1=n/\y.2.2.length=n.toNat*n.toNat)&&Ri m y.2.2))))
def akc (x:S5×U):Prop:=aok x.1=true/\SY x.1.2.2.2.1.length x.2/\x.2.length<=1048576
instance (x:S5×U):Decidable (akc x):=by unfold akc;infer_instance
structure JA (N:Nat) (p:Int) (n:Nat) (a:U) (ms:List nv) (b:U):Prop where
 pr:kg p=true
 hn:n<=N
 al:a.length=n
 ap:wR p a
 bl:b.length=n
 bp:wR p b
 l1:1<=ms.length
 l4:ms.length<=4
 hm:∀x∈ms,∃M:fu,x=((n:Int),(n:Int),afp n n M)/\uQ p n n M
abbrev anF:=JA 12
abbrev anE:=JA 24
theorem JA.p {N:Nat} {p:Int} {n:Nat} {a b:U} {ms:List nv} (h:JA N p n a ms b):sK p:=me h.pr
theorem JA.b {p:Int} {n:Nat} {a b:U} {ms:List nv} (h:anF p n a ms b):anE p n a ms b:=⟨h.pr,zbN h.hn (by omega),h.al,h.ap,h.bl,h.bp,h.l1,h.l4,h.hm⟩
section
variable {p:Int} {n:Nat} {a b:U} {ms:List nv}
end
theorem afi {α:Type}:bh 0 0 (ae ([]:List α))=some ():=rfl
section
variable {p sg:Int} {n m:Nat} {a b a2 b2:U} {ms Y1:List nv}
end
def iL (x a b:Int):Int:=if x=b then a else if b<x then x - 1 else x
def Bw:Int×Int×Int->Option Int:=fun(x:Int×Int×Int)=>if 0<=x.1/\x.1<=1048576 then some (iL x.1 x.2.2 x.2.1) else none
def oI (a b:Int) (e:Int×Int):Int×Int:=(iL e.1 a b,iL e.2 a b)
def yl (n:Int) (d:List (Int×Int)) (e:Int×Int):(Int×List (Int×Int))×Bool:=
 if iw e.1 e.2=nX e.1 e.2 then((n,d),true) else((n - 1,d.map (oI (iw e.1 e.2) (nX e.1 e.2))),true)
def OT (n:Int) (l:List (Int×Int)) (k:Int):(Int×List (Int×Int))×Bool:=if fq n l=true/\0<=k/\k<l.length then yl n (qx k l) (l.getD k.toNat (0,0)) else((0,[]),false)
def abJ:(Int×List (Int×Int))×Int->Option ((Int×List (Int×Int))×Bool):=fun(x:(Int×List (Int×Int))×Int)=>if x.1.2.length<=1048576 then some (OT x.1.1 x.1.2 x.2) else none
def Gf:(Int×List (Int×Int))×Int->Option ((Int×List (Int×Int))×Bool):=abJ
def Ti (NN:Nat):(Int×(Int×Int))->(Option Int):=
 (fun(i0,i1,i2)=>
 aD (bq i0 i1)
 (some i2)
 (aD (cI i1 i0)
 (some (jE .i64 i0 1))
 (some i0)))
def Th (NN:Nat):((Int×(List (Int×Int)))×Int)->(Option ((Int×(List (Int×Int)))×Bool)):=
 (fun((i0,l1),i2)=>
 (Bz ((i0,l1),i2)).ab (fun((i3,l4),b5)=>
 aD (dz b5)
 (some (((0:Int),([]:List (Int×Int))),false))
 ((cV l1 i2).ab (fun(i6,i7)=>
 (cV l1 i2).ab (fun(i8,i9)=>
 (cV l1 i2).ab (fun(gd,fN)=>
 (cV l1 i2).ab (fun(e9,gm)=>
 aD (bq (iw i6 i9) (nX gd gm))
 ((cB l4 (ae l4)).ab (fun dj=>
 some ((i3,dj),true)))
 (cN (aq l4 (
 (bh 0 0 (ae (([]:List (Int×Int))))).ab (fun _=>
 aq l4 (
 cL NN (fun((jO,fy),eP,ii,fZ,eF,eU,dY)=>
 aD (cI fy jO)
 ((cM fy (ae dY)).ab (fun Mf=>
 (bW dY (aw 0 Mf)).ab (fun(fO,mI)=>
 (Bw (fO,eF,fZ)).ab (fun jv=>
 (Bw (mI,eF,fZ)).ab (fun iS=>
 (cM fy (ae dY)).ab (fun tB=>
 (bW dY (aw 0 tB)).ab (fun(qK,lm)=>
 (bh 0 (ae dY) (ae (be dY (aw 0 tB) (jv,iS)))).ab (fun _=>
 aq eU (
 (bh 0 (ae dY) (ae (be dY (aw 0 tB) (jv,iS)))).ab (fun _=>
 some (wt ((jO,bC .i64 fy 1),eP,ii,fZ,eF,eU,be dY (aw 0 tB) (jv,iS)))))))))))))
 ((aq eU (
 aq dY (
 some (wt (eP,ii,eU,dY))))).ab (fun kE=>
 some (IT kE))))
 ((aM (ae l4),(0:Int)),(0:Int),jE .i64 i3 1,iw i6 i9,nX gd gm,([]:List (Int×Int)),l4)))))
 (fun(lp,oE,sv,pn)=>
 (cB pn (ae pn)).ab (fun jw=>
 some ((oE,jw),true)))))))))))
theorem pT {n:Int} {es:List (Int×Int)} (h:fq n es=true):(0<=n/\n<=10)/\es.length<=10/\∀e∈es,(0<=e.1/\e.1<=n - 1)/\(0<=e.2/\e.2<=n - 1):=by simp only[fq,so,decide_eq_true_eq,zbh,sd] at h;exact⟨h.1.1,h.1.2,h.2⟩
theorem aqE (x:Int×Int×Int) (y:Int) (h:Bw x=some y):Ti aP x=some y:=by obtain⟨x,b,a⟩:=x;simp only[Bw] at h;split at h;rename_i hc;rw[<-h];simp only[Ti,iL];by_cases c:x=b;rw[bL (by simp[bq,c]),ah c];rw[aZ (by simp[bq,c]),ak c];by_cases d:b<x;rw[bL (eD d),ah d,n8];rw[aZ d7,ak d];cases h
def ng {α:Type} (f:α->α) (d:List α) (i:Nat):List α:=(d.take i).map f++d.drop i
theorem avA {α:Type} (f:α->α) (d:List α):ng f d 0=d:=by simp[ng]
theorem avB {α:Type} (f:α->α) (d:List α):ng f d d.length=d.map f:=by simp[ng]
theorem YU {α:Type} (f:α->α) (d:List α) (i:Nat):(ng f d i).length=d.length:=by simp[ng];omega
theorem ag5 {α:Type} {f:α->α} {d:List α} {i:Nat} (h:i<d.length):(ng f d i)[i]? =some d[i]:=by unfold ng;rw[zae (by simp;omega)];simp only[By,zan,zbq (show i<=d.length by omega),zas];rw[zaF h];rfl
theorem avC {α:Type} {f:α->α} {d:List α} {i:Nat} (h:i<d.length):(ng f d i).set i (f d[i])=ng f d (i+1):=by
 unfold ng;have hl:((d.take i).map f).length=i:=by simp;omega
 rw[zaC _ _ (by rw[hl];exact Pd i),hl,zas,zaF h,List.set_cons_zero,zaM,co h,zaA];simp
theorem ads (k:Int):∀(l:List (Int×Int)) (i:Nat) (b:List (Int×Int)) (e:Int×Int),e∈kN (uq k) i b l->e∈b\/e∈l
 |[],i,b,e,h=>.inl h
 |x::l,i,b,e,h=>by have h':e∈kN (uq k) (i+1) (uq k i b x) l:=h;rcases ads k l (i+1) (uq k i b x) e h' with a|a;unfold uq at a;split at a;exact .inl a;rcases zb0.1 a with a|a;exact .inl a;simp at a;exact .inr (by simp[a]);exact .inr (by simp[a])
theorem avG (a b:Int):bq a b=decide (a=b):=by unfold bq;cases h:decide (a=b) with|true=>simp at h;simp[h]|false=>simp at h;simp[h]
section
variable {n a b:Int} {d:List (Int×Int)}
theorem apV (hd:∀e∈d,(0<=e.1/\e.1<=n - 1)/\(0<=e.2/\e.2<=n - 1)) (hn:n<=10) {i:Nat} (hi:i<d.length):(0<=d[i].1/\d[i].1<=1048576)/\(0<=d[i].2/\d[i].2<=1048576):=by have:=hd d[i] (List.getElem_mem hi);omega
end
theorem aqD (x:(Int×List (Int×Int))×Int) (y:(Int×List (Int×Int))×Bool) (h:Gf x=some y):Th aP x=some y:=by obtain⟨⟨n,l⟩,k⟩:=x;simp only[Gf,abJ] at h;split at h;(·rename_i hl;rw[<-h];simp only[Th,aq];rw[show Bz ((n,l),k)=some (Hk n l k) from ah hl,bE];unfold OT Hk;by_cases c:fq n l=true/\0<=k/\k<(l.length:Int);rotate_left;rw[ak c,ak c];rfl;rw[ah c,ah c];obtain⟨u,w⟩:=c;obtain⟨hn,B,t⟩:=pT u;simp only;rw[aZ (by rfl)];obtain⟨q,rfl⟩:=jc w.1;have o:q<l.length:=(by omega);have m:cV l (q:Int)=some (l.getD q (0,0)):=(by rw[fC,co o];simp[za7,o]);simp only[m,bE,AT];generalize l.getD q (0,0)=e;have hd:∀e∈qx q l,(0<=e.1/\e.1<=n - 1)/\(0<=e.2/\e.2<=n - 1):=fun e hm=>(by rcases ads (q:Int) l 0 [] e hm with h|h;cases h;exact t e h);have s:(qx q l).length<=10:=zbN (apv _ _) B;generalize qx q l=d at hd s;obtain⟨g,j⟩:=e;simp only[yl,avG];by_cases f:iw g j=nX g j;rw[decide_eq_true f,ah f,Hc,gT,bE];rw[decide_eq_false f,ak f,Ha];generalize iw g j=a;generalize nX g j=b;simp only[bR,afi,bE,nl];rw[gw (fun i=>(((d.length:Int),(i:Int)),(0:Int),jE .i64 n 1,a,b,([]:List (Int×Int)),ng (oI a b) d i)) d.length ?a1 ?a2 ?a3 eZ];(case a3=>simp only[avA];try rfl);(case a2=>simp only;rw[aZ (YQ (Pd _))];try (simp only[bR,afi,bE]));(case a1=>intro i hi;obtain⟨z,r⟩:=apV hd hn.2 hi;simp only;rw[bL (agY hi),kI (show i<ae (ng (oI a b) d i) by show i<(ng _ d i).length;rw[YU];exact hi),bE];simp only[mw];rw[show bW (ng (oI a b) d i) i=some d[i] from ag5 hi,bE];have A:Bw (d[i].1,b,a)=some (iL d[i].1 a b):=ah z;have v:Bw (d[i].2,b,a)=some (iL d[i].2 a b):=ah r;rw[A,bE,v,bE,bE,show bW (ng (oI a b) d i) i=some d[i] from ag5 hi,bE];rw[show be (ng (oI a b) d i) i (iL d[i].1 a b,iL d[i].2 a b)=ng (oI a b) d (i+1) from avC hi];have p:bh 0 (ae (ng (oI a b) d i)) (ae (ng (oI a b) d (i+1)))=some ():=lU (by show(ng _ d i).length=(ng _ d (i+1)).length;rw[YU,YU]);simp only[p,bR,bE,wQ (show i<=1048577 by omega)]);rw[fU];simp only[gT,bE,avB];rw[n8]);cases h
def qS (b a:Int) (l:U):U:=l.map fun x=>if x=b then a else x
def s7 (l:U) (i:Int):Int:=l.getD i.toNat 0
def lC (n:Nat):U:=(zal n).map fun i=>((i:Nat):Int)
def zn (s:Nat) (i:Nat) (st:Int×U) (e:Int×Int):Int×U:=
 if s.testBit i=true/\s7 st.2 e.1≠s7 st.2 e.2 then(st.1 - 1,qS (s7 st.2 e.2) (s7 st.2 e.1) st.2) else st
def parts (n:Int) (es:List (Int×Int)) (s:Int):Int×U:=kN (zn s.toNat) 0 (n,lC n.toNat) es
def tG (s:Nat) (i:Nat) (l:U) (e:Int×Int):U:=
 if s.testBit i=true then qS (max (s7 l e.1) (s7 l e.2)) (min (s7 l e.1) (s7 l e.2)) l else l
def jo (n:Int) (es:List (Int×Int)) (s:Int):U:=kN (tG s.toNat) 0 (lC n.toNat) es
def nE (l:U):Int:=((zal l.length).countP fun i=>l.getD i 0==(i:Int):Nat)
def Rx (es:List (Int×Int)) (s:Int):Bool:=decide (0<=s/\s<2^es.length)
def Gm:(Int×List (Int×Int))×Int->Option U:=
 fun(((n,es),s):(Int×List (Int×Int))×Int)=>if fq n es=true/\Rx es s=true then some (jo n es s) else none
def Gt:(Int×List (Int×Int))×Int->Option Int:=
 fun(((n,es),s):(Int×List (Int×Int))×Int)=>if fq n es=true/\Rx es s=true then some (nE (jo n es s)) else none
def TK (NN:Nat):((Int×(List (Int×Int)))×Int)->(Option U):=
 (fun((i0,l1),i2)=>
 (ki i0 i0 8).ab (fun k3=>
 cN ((bh 0 k3 (ae (cj k3 (0:Int)))).ab (fun _=>
 cL NN (fun((i4,i5,i6),(i7,l8),l9)=>
 aD (cI i6 i5)
 ((cM i6 (ae l9)).ab (fun Qg=>
 (bW l9 (aw 0 Qg)).ab (fun fN=>
 (bh 0 (ae l9) (ae (be l9 (aw 0 Qg) i6))).ab (fun _=>
 some (wt ((i4,i5,bC .i64 i6 1),(i7,l8),be l9 (aw 0 Qg) i6))))))
 ((aq l9 (
 some (wt (i4,(i7,l8),l9)))).ab (fun de=>
 some (IT de))))
 ((i2,aM k3,(0:Int)),(i0,l1),cj k3 (0:Int))))
 (fun(gm,(ft,eQ),dn)=>
 cN (aq dn (
 cL NN (fun((eP,eG,fZ,eF),eU)=>
 aD (cI eF fZ)
 (cN ((cV eG eF).ab (fun(kO,iq)=>
 (Be .i64 eP eF).ab (fun fO=>
 aD (bq (pG .i64 fO (1:Int)) (0:Int))
 (aq eU (
 some (wt ((eF,eP,eG,fZ),eU))))
 ((cM kO (ae eU)).ab (fun AE=>
 (bW eU (aw 0 AE)).ab (fun jv=>
 (cM iq (ae eU)).ab (fun Yw=>
 (bW eU (aw 0 Yw)).ab (fun pW=>
 (cM kO (ae eU)).ab (fun E0=>
 (bW eU (aw 0 E0)).ab (fun lm=>
 (cM iq (ae eU)).ab (fun AF=>
 (bW eU (aw 0 AF)).ab (fun lp=>
 aq eU (
 cL NN (fun((oE,kf,lA,jw,EP,tu,tv,rB),jm)=>
 aD (cI rB tv)
 ((cM rB (ae jm)).ab (fun YA=>
 (bW jm (aw 0 YA)).ab (fun Av=>
 aD (bq Av lA)
 ((cM rB (ae jm)).ab (fun YB=>
 (bW jm (aw 0 YB)).ab (fun Ax=>
 (bh 0 (ae jm) (ae (be jm (aw 0 YB) kf))).ab (fun _=>
 some (wt ((oE,kf,lA,jw,EP,tu,tv,bC .i64 rB 1),be jm (aw 0 YB) kf))))))
 (aq jm (
 some (wt ((oE,kf,lA,jw,EP,tu,tv,bC .i64 rB 1),jm)))))))
 ((aq jm (
 some (wt ((tu,oE,jw,EP),jm)))).ab (fun CQ=>
 some (IT CQ))))
 ((eP,iw jv pW,nX lm lp,eG,fZ,eF,aM (ae eU),(0:Int)),eU))))))))))))))
 (fun((vJ,vK,xy,X7),rE)=>
 aq rE (
 some (wt ((vK,xy,X7,bC .i64 vJ 1),rE)))))
 ((aq eU (
 some (wt eU))).ab (fun qO=>
 some (IT qO))))
 ((gm,eQ,aM (ae eQ),(0:Int)),dn)))
 (fun rF=>
 (cB rF (ae rF)).ab (fun xz=>
 some xz)))))
def TZ (NN:Nat):((Int×(List (Int×Int)))×Int)->(Option Int):=
 (fun((i0,l1),i2)=>
 (Gm ((i0,l1),i2)).ab (fun l3=>
 cN (aq l3 (
 cL NN (fun((i4,i5,i6),l7)=>
 aD (cI i6 i5)
 ((cM i6 (ae l7)).ab (fun k8=>
 (bW l7 (aw 0 k8)).ab (fun i9=>
 aD (bq i6 i9)
 (aq l7 (
 some (wt ((bC .i64 i4 1,i5,bC .i64 i6 1),l7))))
 (aq l7 (
 some (wt ((i4,i5,bC .i64 i6 1),l7)))))))
 (some (IT (wt i4))))
 (((0:Int),aM (ae l3),(0:Int)),l3)))
 (fun gd=>
 some gd)))
theorem ayU (k:Nat):((2^k:Nat):Int)=2^k:=by norm_cast
theorem ayV {s k:Nat} (h:s<2^k) (a:k<63):s<2^63:=Nat.lt_trans h (zby (by decide) a)
def sG {α:Type} (g:α->α) (l:List α) (j:Nat):List α:=(l.take j).map g++l.drop j
theorem avv {α:Type} (g:α->α) (l:List α):sG g l 0=l:=by simp[sG]
theorem avw {α:Type} (g:α->α) (l:List α):sG g l l.length=l.map g:=by simp[sG]
theorem avx {α:Type} (g:α->α) (l:List α) (j:Nat):(sG g l j).length=l.length:=by simp[sG];omega
theorem ag2 {α:Type} {g:α->α} {l:List α} {j:Nat} {x:α} (h:l[j]? =some x):(sG g l j)[j]? =some x:=by have:=Mx h;unfold sG;rw[zae (by simp;omega)];simp only[By,zan,zaK];rw[show j+(j - min j l.length)=j by omega,h]
theorem ag3 {α:Type} {g:α->α} {l:List α} {j:Nat} {x:α} (h:l[j]? =some x):(sG g l j).set j (g x)=sG g l (j+1):=by have:=Mx h;unfold sG;rw[zaC _ _ (by simp;omega),zaM,h,drop_cons h];simp only[By,zan];rw[show j - min j l.length=0 by omega];simp
theorem avy {α:Type} {g:α->α} {l:List α} {j:Nat} {x:α} (h:l[j]? =some x) (b:g x=x):sG g l (j+1)=sG g l j:=by rw[<-ag3 h,b];obtain⟨c,d⟩:=If.1 (ag2 (g:=g) h);have a:=List.set_getElem_self c;rw[d] at a;exact a
theorem xv (n:Nat):(lC n).length=n:=by simp[lC]
theorem atm (n:Nat):d6 (lC n) [(n:Int)]=lC (n+1):=by simp[lC,d6,zbt]
theorem M8 (b a:Int) (l:U):(qS b a l).length=l.length:=by simp[qS]
theorem acm {l:U} {u:Nat} (h:u<l.length):l[u]? =some (s7 l (u:Int)):=by simp[s7,za7,co h]
def Rf (b a:Int) (x:Int):Int:=if x=b then a else x
theorem agK {s i:Nat} {l:U} {e:Int×Int}:(tG s i l e).length=l.length:=by unfold tG;split;exact M8 _ _ _;rfl
theorem QI (a b:Int):iw a b=min a b:=by unfold iw;split<;>omega
theorem aha (a b:Int):nX a b=max a b:=by unfold nX;split<;>omega
theorem aqQ (x:(Int×List (Int×Int))×Int) (y:U) (h:Gm x=some y):TK aP x=some y:=by obtain⟨⟨n,es⟩,s⟩:=x;simp only[Gm] at h;split at h;(·rename_i p;obtain⟨o,hs⟩:=p;injection h with h;subst h;obtain⟨⟨q,hn⟩,hl,g⟩:=pT o;obtain⟨m,rfl⟩:=jc q;have hs:=of_decide_eq_true hs;obtain⟨k,rfl⟩:=jc hs.1;have c:k<2^63:=ayV (k:=es.length) (by exact_mod_cast hs.2) (by omega);simp only[TK,aq];have hm:ki (m:Int) (m:Int) 8=some m:=zf (n:=m) (by simp only[gH];omega);have hr:ae (cj m (0:Int))=m:=(by simp[ae,cj]);rw[hm,bE,hr,bR,bE];rw[gw (fun j=>(((k:Int),aM m,(j:Int)),((m:Int),es),lC j++OF (m - j) (0:Int))) (r:=wt ((k:Int),((m:Int),es),lC m)) m ?_ ?_ ?_ eZ];(·rw[fU];simp only[bR,bE];rw[agW es (fun(l:U) i=>(((k:Int),es,aM (ae es),(i:Int)),l)) (fun i l=>l.length=m) (tG k) (fun l=>wt l) ?_ ?_ (s:=lC m) (xv m) ?_ (avu hl (by decide))];rw[fU,gT];rfl;(all_goals try simp only);(·rintro i l ⟨u,v⟩ ha b;refine⟨?_,agK.trans b⟩;obtain⟨⟨B,e⟩,C,d⟩:=g _ (zaw ha);obtain⟨u,rfl⟩:=jc B;obtain⟨v,rfl⟩:=jc C;simp only at e d;have hi:=Mx ha;have A:=acm (l:=l) (u:=u) (by omega);have t:=acm (l:=l) (u:=v) (by omega);rw[bL (Is ha),fC,ha,bE];simp only[kI (i:=u) (n:=ae l) (by simp only[ae];omega),kI (i:=v) (n:=ae l) (by simp only[ae];omega),bE,mw,bW,A,t,aAo c,aoA c];unfold tG;simp only;cases hb:k.testBit i with|false=>rw[bL (by rfl),fU,Iy ha (by omega)];rfl|true=>rw[aZ (by rfl),ah rfl,QI,aha];generalize min (s7 l (u:Int)) (s7 l (v:Int))=lo;generalize max (s7 l (u:Int)) (s7 l (v:Int))=fi;rw[gw (fun j=>(((k:Int),lo,fi,es,aM (ae es),(i:Int),aM (ae l),(j:Int)),sG (Rf fi lo) l j)) (r:=wt (((i:Int),(k:Int),es,aM (ae es)),qS fi lo l)) l.length ?_ ?_ ?_ eZ];rw[fU,Iy ha (by omega)];(all_goals try simp only);intro j hj;obtain⟨x,hx⟩:∃x,l[j]? =some x:=⟨_,co hj⟩;have w:ae (sG (Rf fi lo) l j)=l.length:=avx _ _ _;rw[bL (Is hx)];simp only[agM,w,kI hj,bE,mw,bW,ag2 hx,bR,Iy hx (by omega)];by_cases a:x=fi;rw[bL (tf a),<-ag3 hx,Rf,ah a];rfl;rw[aZ (te a),avy hx (by rw[Rf,ak a])];rw[aZ (Ir l),avw];rfl;rw[avv];rfl);rintro l _;rw[aZ (Ir es)];rfl);(all_goals try simp only);intro j hj;rw[bL (eD (by simp only[aM];omega))];have b:ae (lC j++OF (m - j) (0:Int))=m:=(by simp[ae,xv];omega);have f:(lC j++OF (m - j) (0:Int))[j]? =some 0:=(by rw[zae (by rw[xv];omega),xv,zas,List.getElem?_replicate,ah (by omega)]);have z:be (lC j++OF (m - j) (0:Int)) j (j:Int)=lC (j+1)++OF (m - (j+1)) (0:Int):=(by rw[<-atm,be,zaC _ _ (by rw[xv];omega),xv,zas,show m - j=(m - (j+1))+1 by omega,zbA];simp[d6]);simp only[agM,b,kI hj,bE,mw,bW,f,bR,z];rw[ez];rfl;rw[aZ (d7 (by simp only[aM];omega)),bR,zas];simp;rfl;simp[lC,cj]);cases h
theorem agL {n:Int} {es:List (Int×Int)} {s:Int}:(jo n es s).length=n.toNat:=by unfold jo;generalize hl:lC n.toNat=l;have a:l.length=n.toNat:=(by rw[<-hl,xv]);clear hl;rw[<-a];clear a;generalize 0=i;induction es generalizing l i with|nil=>rfl|cons e es b=>rw[kN,b,agK]
theorem Hi (p:Nat->Bool) (j:Nat):(zal (j+1)).countP p=(zal j).countP p+(if p j=true then 1 else 0):=by rw[zbt,List.countP_append,List.countP_singleton]
theorem ac9 (p:Nat->Bool) (j:Nat):(zal j).countP p<=j:=by have:=List.countP_le_length (p:=p) (l:=zal j);rwa[za8] at this
theorem aq1 (x:(Int×List (Int×Int))×Int) (y:Int) (h:Gt x=some y):TZ aP x=some y:=by obtain⟨⟨n,es⟩,s⟩:=x;simp only[Gt] at h;split at h;(·rename_i b;injection h with h;subst h;obtain⟨⟨cC,hn⟩,hl,he⟩:=pT b.1;simp only[TZ,Gm,ah b,bE,aq];have hlen:=agL (n:=n) (es:=es) (s:=s);generalize jo n es s=l at*;simp only[bR,bE];rw[gw (fun j=>((((List.countP (fun i=>l.getD i 0==(i:Int)) (zal j):Nat):Int),aM (ae l),(j:Int)),l)) (r:=wt (nE l)) l.length ?_ ?_ ?_ eZ];rfl;(all_goals try simp only);intro j hj;obtain⟨x,hx⟩:∃x,l[j]? =some x:=⟨_,co hj⟩;rw[bL (Is hx)];simp only[kI (i:=j) (n:=ae l) hj,bE,mw,bW,hx];have io:=ac9 (fun i=>l.getD i 0==(i:Int)) j;rw[Hi,Iy hx (by omega),ez];by_cases a:(j:Int)=x;rw[bL (tf a),ah (by simp[za7,hx,a])];rfl;rw[aZ (te a),ak (by simp[za7,hx];omega)];rfl;rw[aZ (Ir l)];rfl;rfl);cases h
theorem ada (p q:Nat->Bool) (k:Nat):∀n,k<n->(∀i,i<n->i≠k->p i=q i)->p k=true->q k=false->(zal n).countP p=(zal n).countP q+1
 |0,h,_,_,_=>by omega
 |n+1,h,Xx,h1,h2=>by rw[Hi,Hi];by_cases a:k=n;subst a;rw[h1,h2];have:(zal k).countP p=(zal k).countP q:=List.countP_congr fun i hi=>(by have:=zaO.1 hi;rw[Xx i (by omega) (by omega)]);rw[this];simp;rw[ada p q k n (by omega) (fun i hi=>Xx i (by omega)) h1 h2,Xx n (by omega) (by omega)];omega
structure ub (m:Nat) (l:U) (c:Int) (q:U):Prop where
 ll:l.length=m
 lq:q.length=m
 same:∀i j:Nat,i<m->j<m->(l.getD i 0=l.getD j 0↔q.getD i 0=q.getD j 0)
 low:∀i:Nat,i<m->0<=l.getD i 0/\l.getD i 0<=(i:Int)/\l.getD (l.getD i 0).toNat 0=l.getD i 0
 r8:nE l=c
theorem ZF {b a:Int} {l:U} {i:Nat} (h:i<l.length):(qS b a l).getD i 0=if l.getD i 0=b then a else l.getD i 0:=by simp[qS,za7,zad,co h]
theorem azo (b:Int) (l:U):qS b b l=l:=by
 unfold qS
 conv=>rhs;rw[<-List.map_id l]
 refine IN fun x _=>?_;split
 ·rename_i h;exact h.symm
 ·rfl
theorem MA {b a x y:Int}:((if x=b then a else x)=(if y=b then a else y))↔(x=y\/((x=b\/x=a)/\(y=b\/y=a))):=by constructor;intro h;split at h<;>split at h<;>omega;intro h;split<;>split<;>omega
theorem ub.step {m:Nat} {l:U} {c:Int} {q:U} (h:ub m l c q) {u v:Nat} (g:u<m) (k:v<m) {s i:Nat}:
  ub m (tG s i l ((u:Int),(v:Int))) (zn s i (c,q) ((u:Int),(v:Int))).1 (zn s i (c,q) ((u:Int),(v:Int))).2:=by
 cases hb:s.testBit i with
 |false=>
  have E:tG s i l ((u:Int),(v:Int))=l:=ak (by rw[hb];decide);have F:zn s i (c,q) ((u:Int),(v:Int))=(c,q):=ak (fun o=>by rw[hb] at o;exact absurd o.1 (by decide));rw[E,F];exact h
 |true=>
  have R:q.getD u 0=q.getD v 0->zn s i (c,q) ((u:Int),(v:Int))=(c,q):=fun h=>ak (fun o=>o.2 h);have L:q.getD u 0≠q.getD v 0->zn s i (c,q) ((u:Int),(v:Int))=(c - 1,qS (q.getD v 0) (q.getD u 0) q):=fun h=>ah ⟨hb,h⟩;have K:tG s i l ((u:Int),(v:Int))=qS (max (l.getD u 0) (l.getD v 0)) (min (l.getD u 0) (l.getD v 0)) l:=ah hb;obtain⟨ll,lq,same,low,r8⟩:=h;by_cases n:q.getD u 0=q.getD v 0
  ·have hl:=(same u v g k).2 n;rw[R n,K,hl,Int.max_self,Int.min_self,azo];exact⟨ll,lq,same,low,r8⟩
  ·have hl:l.getD u 0≠l.getD v 0:=fun e=>n ((same u v g k).1 e);rw[L n,K];obtain⟨z,C,D⟩:=low u g;obtain⟨A,p,B⟩:=low v k;obtain⟨lo,hi,E,F,cu,G,r,Q,J,f⟩:∃lo hi:Nat,min (l.getD u 0) (l.getD v 0)=(lo:Int)/\max (l.getD u 0) (l.getD v 0)=(hi:Int)/\lo<hi/\
     (∀x:Int,(x=(hi:Int)\/x=(lo:Int))↔(x=l.getD v 0\/x=l.getD u 0))/\lo<m/\l.getD lo 0=(lo:Int)/\l.getD hi 0=(hi:Int)/\hi<m:=by
    obtain⟨a,ha⟩:=jc z;obtain⟨b,hb⟩:=jc A;rw[ha,AT] at D;rw[hb,AT] at B;rw[ha] at C hl;rw[hb] at p hl;rw[ha,hb];rcases zaP a b with H|H
    ·exact⟨a,b,by omega,by omega,H,fun x=>by omega,by omega,D,B,by omega⟩
    ·exact⟨b,a,by omega,by omega,by omega,fun x=>by omega,by omega,B,D,by omega⟩
   rw[E,F];have d:∀j,j<m->(qS (hi:Int) (lo:Int) l).getD j 0=if l.getD j 0=(hi:Int) then(lo:Int) else l.getD j 0:=fun j hj=>ZF (by omega)
   have I:∀j,j<m->(qS (q.getD v 0) (q.getD u 0) q).getD j 0=if q.getD j 0=q.getD v 0 then q.getD u 0 else q.getD j 0:=fun j hj=>ZF (by omega)
   refine⟨by rw[M8];exact ll,by rw[M8];exact lq,?_,?_,?_⟩
   ·intro x y hx hy;rw[d x hx,d y hy,I x hx,I y hy,MA,MA,G,G,same x y hx hy,same x u hx g,same x v hx k,same y u hy g,same y v hy k]
   ·intro x hx;obtain⟨M,O,N⟩:=low x hx;rw[d x hx];by_cases t:l.getD x 0=(hi:Int)
    ·rw[ah t];refine⟨by omega,by omega,?_⟩;rw[AT,d lo r,Q,ak (by omega)]
    ·rw[ak t];refine⟨M,O,?_⟩;rw[d _ (by omega),N,ak t]
   ·have P:=ada (fun j=>l.getD j 0==(j:Int)) (fun j=>(qS (hi:Int) (lo:Int) l).getD j 0==(j:Int)) hi m f ?_ (by rw[J];simp) (by rw[d hi f,ah J];simp;omega)
    ·unfold nE at r8⊢;rw[M8,ll];rw[ll,P] at r8;omega
    ·intro j hj aJ;rw[d j hj];by_cases w:l.getD j 0=(hi:Int)
     ·rw[ah w,w,zbT];simp only[beq_iff_eq];constructor
      ·intro h;omega
      ·intro h;have:lo=j:=by omega
       subst this;omega
     ·rw[ak w]
theorem ub.fold {m s:Nat}:∀(es:List (Int×Int)) (i:Nat) {l:U} {st:Int×U},ub m l st.1 st.2->(∀e∈es,(0<=e.1/\e.1<=(m:Int) - 1)/\(0<=e.2/\e.2<=(m:Int) - 1))-> ub m (kN (tG s) i l es) (kN (zn s) i st es).1 (kN (zn s) i st es).2
 |[],_,_,_,h,_=>h
 |(u,v)::es,i,l,(c,q),h,he=>by obtain⟨⟨b,a⟩,f,d⟩:=he _ zaz;obtain⟨u,rfl⟩:=jc b;obtain⟨v,rfl⟩:=jc f;simp only at a d;exact ub.fold es (i+1) (h.step (by omega) (by omega)) (fun e h=>he e (zao _ h))
theorem Ma {m i:Nat} (h:i<m):(lC m).getD i 0=(i:Int):=by simp[lC,za7,zad,zbC h]
theorem ub.init (m:Nat):ub m (lC m) (m:Int) (lC m):=by refine⟨xv m,xv m,fun _ _ _ _=>Iff.rfl,fun i hi=>?_,?_⟩;rw[Ma hi,AT,Ma hi];omega;unfold nE;rw[xv];have:(zal m).countP (fun i=>(lC m).getD i 0==(i:Int))=(zal m).length:=(by rw[List.countP_eq_length];intro i hi;rw[Ma (zaO.1 hi)];simp);rw[this,za8]
theorem VT {n:Int} {es:List (Int×Int)} {s:Int} (h:fq n es=true):nE (jo n es s)=(parts n es s).1:=by obtain⟨⟨b,hn⟩,hl,a⟩:=pT h;obtain⟨m,rfl⟩:=jc b;exact(ub.fold es 0 (st:=((m:Int),lC m)) (ub.init m) a).r8
def ik (n:Nat):Nat:=if n=0 then 0 else n%2+ik (n/2)
def B1 (r:Int×Int×Int) (g:Int×List (Int×Int)) (x:U):Bool:=bc r&&(fq g.1 g.2&&bm r x)
def kG (r:Int×Int×Int) (g:Int×List (Int×Int)) (q:Int) (x:U):Bool:=B1 r g x&&decide (1<=q/\q<=4)
def sa (g:Int×List (Int×Int)) (s:Nat):Nat:=(parts g.1 g.2 (s:Int)).1.toNat
def D7 (r:Int×Int×Int) (g:Int×List (Int×Int)) (q:Int) (x:U):Nat->U
 |0=>d9 r
 |s+1=>cA r (D7 r g q x s) (dg r (iB r (il r q) (sa g s)) (iB r x (ik s)))
def vl (r:Int×Int×Int) (g:Int×List (Int×Int)) (q:Int) (x:U):U:=if kG r g q x=true then D7 r g q x (2^g.2.length) else[]
def Gl:Int->Option Int:=fun(s:Int)=>if 0<=s/\s<=1048576 then some (ik s.toNat:Int) else none
def x5:(Int×Int×Int)×(Int×List (Int×Int))×Int×U->Option Bool:=fun((r,g,q,x):(Int×Int×Int)×(Int×List (Int×Int))×Int×U)=>if x.length<=9223372036854775806 then some (kG r g q x) else none
def TJ (NN:Nat):Int->(Option Int):=
 (fun i0=>
 cN (cL NN (fun(i1,i2)=>
 aD (jA i1 (0:Int))
 (some (wt (pG .i64 i1 (jE .i64 i1 1),bC .i64 i2 1)))
 (some (IT (wt i2))))
 (i0,(0:Int)))
 (fun i3=>
 some i3))
def Ub (NN:Nat):((Int×(Int×Int))×((Int×(List (Int×Int)))×(Int×U)))->(Option Bool):=
 (fun((i0,i1,i2),(i3,l4),i5,l6)=>
 (qW (i0,i1,i2)).ab (fun b7=>
 aD (b7)
 ((BA (i3,l4)).ab (fun b8=>
 aD (b8)
 ((xW ((i0,i1,i2),l6)).ab (fun b9=>
 aD (b9)
 (aD (ic (1:Int) i5)
 (some (ic i5 (4:Int)))
 (some false))
 (some false)))
 (some false)))
 (some false)))
theorem ajJ:ik 0=0:=by rw[ik];rfl
theorem Zq {n:Nat} (h:n≠0):ik n=n%2+ik (n/2):=by rw[ik,ak h]
theorem Zr (m:Nat):ik (2*m)=ik m:=by by_cases h:m=0;subst h;rfl;rw[Zq (by omega),show 2*m%2=0 by omega,show 2*m/2=m by omega,zat]
theorem ayQ (m:Nat):ik (2*m+1)=ik m+1:=by rw[Zq (by omega),show(2*m+1)%2=1 by omega,show(2*m+1)/2=m by omega,zbQ]
theorem ayO:∀n:Nat,ik n<=n:=by intro n;induction n using Nat.strongRecOn with|ind n a=>by_cases h:n=0;subst h;rw[ajJ];exact Pd _;rw[Zq h];have:=a (n/2) (by omega);omega
theorem ace (a b:Nat):(2*a+1)&&&2*b=2*(a&&&b):=by apply Nat.eq_of_testBit_eq;intro i;cases i with|zero=>simp[zbv,Nat.testBit_zero]|succ i=>have h:(2*a+1)/2=a:=(by omega);rw[zbv,zbi,zbi,zbi,h,zaI _ (by decide),zaI _ (by decide),zbv]
theorem an6 (a b:Nat):2*a&&&(2*b+1)=2*(a&&&b):=by rw[zbr,ace,zbr]
theorem ayP:∀n:Nat,n≠0->ik (n&&&(n - 1))+1=ik n:=by intro n;induction n using Nat.strongRecOn with|ind n a=>intro hn;obtain⟨m,rfl|rfl⟩:∃m,n=2*m\/n=2*m+1:=⟨n/2,by omega⟩;have hm:m≠0:=(by omega);rw[show 2*m - 1=2*(m - 1)+1 by omega,an6,Zr,Zr];exact a m (by omega) hm;rw[show 2*m+1 - 1=2*m by omega,ace,zce,Zr,ayQ]
theorem an7 {n:Nat} (h:n≠0):n&&&(n - 1)<n:=by have:=Nat.and_le_right (n:=n) (m:=n - 1);omega
theorem acw:∀(N n:Nat) (c:Int),n<N->n<=1048576->0<=c->c+n<=4194304-> cL N (fun((i1,i2):Int×Int)=>aD (jA i1 0) (some (wt (pG .i64 i1 (jE .i64 i1 1),bC .i64 i2 1))) (some (IT (wt i2:Int⊕Int)))) ((n:Int),c)=some (wt (c+ik n))
 |0,n,c,h,_,_,_=>by omega
 |N+1,n,c,h,h2,h3,h4=>by by_cases a:n=0;subst a;rw[cL];simp only;rw[aZ (sJ (show((0:Nat):Int)=0 from rfl)),ajJ];simp;rw[cL];simp only;rw[bL (zg (by omega)),n8,show(n:Int) - 1=((n - 1:Nat):Int) by omega,UO (by omega) (by omega),ez];simp only;have hl:=an7 a;rw[acw N (n&&&(n - 1)) (c+1) (by omega) (by omega) (by omega) (by omega)];have:=ayP n a;congr 2;omega
theorem aqP (x:Int) (z:Int) (h:Gl x=some z):TJ aP x=some z:=by simp only[Gl] at h;split at h;rename_i a;obtain⟨n,rfl⟩:=jc a.1;rw[<-h];simp only[TJ];have:=acw aP n 0 eZ (by omega) (by omega) (by omega);rw[this,fU];simp;cases h
theorem aq8 (x:(Int×Int×Int)×(Int×List (Int×Int))×Int×U) (z:Bool) (h:x5 x=some z):Ub aP x=some z:=by
 obtain⟨⟨k,p,n⟩,⟨a,es⟩,q,x⟩:=x;simp only[x5] at h;split at h
 ·rename_i hl;rw[<-h];simp only[Ub,qW,BA,bE,kG,B1,agJ,G9];rw[show xW ((k,p,n),x)=some (bc (k,p,n)&&bm (k,p,n) x) from ah hl,bE]
  have e:(if 1<=q then some (decide (q<=4)) else some false)=some (decide (1<=q/\q<=4)):=by
   by_cases b:1<=q<;>simp[b]
  rw[e];cases bc (k,p,n)<;>cases fq a es<;>cases bm (k,p,n) x<;>rfl
 ·cases h
theorem Vt {r:Int×Int×Int} {g:Int×List (Int×Int)} {x:U} (h:B1 r g x=true):bc r=true/\fq g.1 g.2=true/\bm r x=true:=by simpa[B1] using h
theorem avl {r:Int×Int×Int} {x y:U} (hx:bm r x=true) (hy:bm r y=true):bh 0 (ae x) (ae y)=some ():=lU ((fJ hx).trans (fJ hy).symm)
def cS (om:Bool) (w:Nat) (x y:Nat->Int) (t:Nat):Int:=sm w (fun i=>sm w (fun j=>kW om x y t i j))
def pc (x y:Nat->Int) (t:Nat):Int:=sm (t+1) (fun i=>x i*y (t - i))
theorem Dp:∀(n:Nat) {f:Nat->Int},(∀i,i<n->f i=0)->sm n f=0
 |0,_,_=>rfl
 |n+1,f,h=>by simp only[sm];rw[Dp n (fun i hi=>h i (by omega)),h n (by omega)];rfl
theorem aaz {a:Nat} {f:Nat->Int}:∀(n:Nat),a<n->(∀i,i<n->i≠a->f i=0)->sm n f=f a
 |0,h,_=>by omega
 |n+1,h,hf=>by simp only[sm];by_cases e:a=n;subst e;rw[Dp a (fun i hi=>hf i (by omega) (by omega))];omega;rw[aaz n (by omega) (fun i hi b=>hf i (by omega) b),hf n (by omega) (by omega)];omega
theorem amq {m:Nat} {f:Nat->Int}:∀(n:Nat),m<=n->(∀i,i<n->m<=i->f i=0)->sm n f=sm m f
 |0,h,_=>by rw[show m=0 by omega]
 |n+1,h,hf=>by by_cases e:m=n+1;rw[e];simp only[sm];rw[amq n (by omega) (fun i hi hm=>hf i (by omega) hm),hf n (by omega) (by omega)];omega
theorem aaA {p:Int} {f g:Nat->Int}:∀{n:Nat},(∀i,i<n->f i%p=g i%p)->sm n f%p=sm n g%p
 |0,_=>rfl
 |n+1,h=>by simp only[sm];rw[zcf,aaA (n:=n) (fun i hi=>h i (by omega)),h n (by omega),<-zcf]
theorem Km {w t:Nat} (x y:Nat->Int) (h:t<w):cS false w x y t=pc x y t:=by
 have b:∀i,i<w->sm w (fun j=>kW false x y t i j)=if i<=t then x i*y (t - i) else 0:=by
  intro i hi;split
  ·rename_i Ck;rw[aaz (a:=t - i) w (by omega) (fun j hj aJ=>by unfold kW;rw[ak (by omega),ak (by simp)])];unfold kW;rw[ah (by omega)]
  ·exact Dp w fun j hj=>by unfold kW;rw[ak (by omega),ak (by simp)]
 unfold cS pc;rw[Bg b,amq (m:=t+1) w (by omega) (fun i hi hm=>ak (by omega))];exact Bg fun i hi=>ah (by omega)
theorem axg {p a b:Int} (c:a%p=b%p):(-a)%p=(-b)%p:=by
 have:(0 - a)%p=(0 - b)%p:=by rw[zcg,c,<-zcg]
 simpa using this
theorem Vb {om:Bool} {w t:Nat} {p:Int} {x x' y y':Nat->Int} (hx:∀i,i<w->x i%p=x' i%p) (hy:∀i,i<w->y i%p=y' i%p):cS om w x y t%p=cS om w x' y' t%p:=by refine aaA fun i hi=>aaA fun j hj=>?_;have hm:(x i*y j)%p=(x' i*y' j)%p:=(by rw[zac,hx i hi,hy j hj,<-zac]);unfold kW;split;exact hm;split;exact axg hm;rfl
theorem Ow {om:Bool} {w t:Nat} {x x' y y':Nat->Int} (hx:∀i,i<w->x i=x' i) (hy:∀i,i<w->y i=y' i):cS om w x y t=cS om w x' y' t:= Bg fun i hi=>Bg fun j hj=>by unfold kW;rw[hx i hi,hy j hj]
theorem ayH (x y z:Nat->Int) {t:Nat} (h:t<6):pc (pc x y) z t=pc x (pc y z) t:=by
 match t,h with
 |0,_=>simp only[pc,sm,Nat.reduceSub,Nat.reduceAdd,zat];try grind
 |1,_=>simp only[pc,sm,Nat.reduceSub,Nat.reduceAdd,zat];try grind
 |2,_=>simp only[pc,sm,Nat.reduceSub,Nat.reduceAdd,zat];try grind
 |3,_=>simp only[pc,sm,Nat.reduceSub,Nat.reduceAdd,zat];try grind
 |4,_=>simp only[pc,sm,Nat.reduceSub,Nat.reduceAdd,zat];try grind
 |5,_=>simp only[pc,sm,Nat.reduceSub,Nat.reduceAdd,zat];try grind
theorem D8 (x y:Nat->Int):cS true 4 x y 0=x 0*y 0 - x 1*y 3 - x 2*y 2 - x 3*y 1:=by simp[cS,sm,kW];grind
theorem D9 (x y:Nat->Int):cS true 4 x y 1=x 0*y 1+x 1*y 0 - x 2*y 3 - x 3*y 2:=by simp[cS,sm,kW];grind
theorem Ea (x y:Nat->Int):cS true 4 x y 2=x 0*y 2+x 1*y 1+x 2*y 0 - x 3*y 3:=by simp[cS,sm,kW];grind
theorem Eb (x y:Nat->Int):cS true 4 x y 3=x 0*y 3+x 1*y 2+x 2*y 1+x 3*y 0:=by simp[cS,sm,kW]
theorem ao4 (x y z:Nat->Int) {t:Nat} (h:t<4):cS true 4 (cS true 4 x y) z t=cS true 4 x (cS true 4 y z) t:=by
 match t,h with
 |0,_=>rw[D8,D8];simp only[D8,D9,Ea,Eb];grind
 |1,_=>rw[D9,D9];simp only[D8,D9,Ea,Eb];grind
 |2,_=>rw[Ea,Ea];simp only[D8,D9,Ea,Eb];grind
 |3,_=>rw[Eb,Eb];simp only[D8,D9,Ea,Eb];grind
theorem aoE {k p:Int} {w:Nat} (c:N1 k p w) (x y z:Nat->Int) {t:Nat} (h:t<w):cS (decide (k=8)) w (cS (decide (k=8)) w x y) z t=cS (decide (k=8)) w x (cS (decide (k=8)) w y z) t:=by by_cases a:k=8;obtain rfl:=c.w8 a;rw[decide_eq_true a];exact ao4 x y z h;rw[decide_eq_false a];have h6:=c.cw;rw[Ow (x':=pc x y) (y':=z) (fun i hi=>Km x y hi) (fun _ _=>rfl),Km _ _ h,Ow (x':=x) (y':=pc y z) (fun _ _=>rfl) (fun i hi=>Km y z hi),Km _ _ h];exact ayH x y z (by omega)
theorem zS (p:Int) (om:Bool) (w:Nat) (x y:Nat->Int):wW p om w x y=gN w fun t=>cS om w x y t%p:=rfl
theorem uo {r:Int×Int×Int} (h:r.1=7\/r.1=8) (x y:U):dg r x y=wW r.2.1 (decide (r.1=8)) (az r) (cE x) (cE y):=ah h
theorem QJ {a b c p:Int} (hp:0<=p) (ha:0<=a) (hb:0<=b) (d:0<=c):min (min (a*b) p*c) p=min (a*b*c) p:=by generalize hm:a*b=m;by_cases h:m<=p;rw[show min m p=m by omega];rw[show min m p=p by omega];by_cases e:c=0;subst e;simp;have h1:p*1<=p*c:=zam (by omega) hp;have h2:p*c<=m*c:=Int.mul_le_mul_of_nonneg_right (by omega) d;omega
theorem wD {r:Int×Int×Int} (a:¬(r.1=7\/r.1=8)):az r=1:=by obtain⟨k,p,n⟩:=r;simp only at a;simp only[az,kt];rw[ak (by omega),ak (by omega)];rfl
theorem axF {r:Int×Int×Int} (hr:bc r=true) (e:¬(r.1=7\/r.1=8)) {a b c:Int} (ha:0<=a/\a<=cr r) (hb:0<=b/\b<=cr r) (d:0<=c/\c<=cr r):kl r (kl r a b) c=kl r a (kl r b c):=by obtain⟨k,p,n⟩:=r;simp only at e;rcases nk hr with⟨rfl,rfl,rfl⟩|⟨rfl,hp,rfl⟩|⟨rfl,hp,rfl⟩|⟨rfl,hp,rfl⟩|⟨rfl,hp,rfl⟩|⟨rfl,rfl,hn⟩|⟨rfl,hp,hn⟩|⟨rfl,hp,iR,rfl⟩;have o:∀u v,kl (1,0,0) u v=((u.toNat&&&v.toNat:Nat):Int):=fun _ _=>rfl;rw[o,o,o,o,AT,AT,zca];have o:∀u v,kl (2,p,0) u v=u*v%p:=fun _ _=>rfl;rw[o,o,o,o,zac,zaJ,<-zac,zac a,zaJ,<-zac,zaX];have o:∀u v,kl (3,p,0) u v=min (u*v) p:=fun _ _=>rfl;rw[o,o,o,o,QJ (by omega) ha.1 hb.1 d.1,zbw a (min _ _),QJ (by omega) hb.1 d.1 ha.1,zaX a b c,zbw a];have o:∀u v,kl (4,p,0) u v=min (u+v) p:=fun _ _=>rfl;rw[o,o,o,o];omega;have o:∀u v,kl (5,p,0) u v=min u v:=fun _ _=>rfl;rw[o,o,o,o];omega;have o:∀u v,kl (6,0,n) u v=((u.toNat&&&v.toNat:Nat):Int):=fun _ _=>rfl;rw[o,o,o,o,AT,AT,zca];omega;omega
theorem mul_assoc {r:Int×Int×Int} {x y z:U} (hr:bc r=true) (hx:bm r x=true) (hy:bm r y=true) (g:bm r z=true):dg r (dg r x y) z=dg r x (dg r y z):=by by_cases d:r.1=7\/r.1=8;obtain⟨k,p,n⟩:=r;have c:=D4 hr d;rw[uo d,uo d,uo d,uo d];simp only;refine tW fun t j=>?_;show cS (decide (k=8)) (az (k,p,n)) (cE (wW p (decide (k=8)) (az (k,p,n)) (cE x) (cE y))) (cE z) t%p=cS (decide (k=8)) (az (k,p,n)) (cE x) (cE (wW p (decide (k=8)) (az (k,p,n)) (cE y) (cE z))) t%p;have l:cS (decide (k=8)) (az (k,p,n)) (cE (wW p (decide (k=8)) (az (k,p,n)) (cE x) (cE y))) (cE z) t%p=cS (decide (k=8)) (az (k,p,n)) (cS (decide (k=8)) (az (k,p,n)) (cE x) (cE y)) (cE z) t%p:= Vb (fun i hi=>by rw[zS,vu _ hi,zaJ]) (fun _ _=>rfl);have m:cS (decide (k=8)) (az (k,p,n)) (cE x) (cE (wW p (decide (k=8)) (az (k,p,n)) (cE y) (cE z))) t%p=cS (decide (k=8)) (az (k,p,n)) (cE x) (cS (decide (k=8)) (az (k,p,n)) (cE y) (cE z)) t%p:= Vb (fun _ _=>rfl) (fun i hi=>by rw[zS,vu _ hi,zaJ]);rw[l,m,aoE c _ _ _ j];have f:=wD d;obtain⟨a,b,rfl,rfl,ha,hb⟩:=vo hx hy f;obtain⟨_,c,e,rfl,_,h⟩:=vo hx g f;rw[oJ d,oJ d,oJ d,oJ d,axF hr d ha hb h]
theorem arm {k p n:Int} (hk:k=7\/k=8) {j:Nat} (hj:j<az (k,p,n)):cE (cH (k,p,n)) j=if j=0 then 1 else 0:=by rw[QY,vu _ hj,ak (show¬k=4 by omega),ak (show¬(k=5\/k=6) by omega)]
theorem acB {k p:Int} {w:Nat} (c:N1 k p w) (u:Nat->Int) (v:Int) {t:Nat} (h:t<w):cS (decide (k=8)) w u (fun j=>if j=0 then v else 0) t=u t*v:=by
 by_cases b:k=8
 ·obtain rfl:=c.w8 b;rw[decide_eq_true b];match t,h with
  |0,_=>rw[D8];simp
  |1,_=>rw[D9];simp
  |2,_=>rw[Ea];simp
  |3,_=>rw[Eb];simp
 ·rw[decide_eq_false b,Km _ _ h];unfold pc;rw[aaz (a:=t) (t+1) (by omega) (fun i hi aJ=>by simp only;rw[ak (by omega),Int.mul_zero])];simp only
  rw[ah (by omega)]
theorem axI {k p n:Int} (hr:bc (k,p,n)=true) (hk:¬(k=7\/k=8)) {a:Int} (ha:0<=a/\a<=cr (k,p,n)):kl (k,p,n) a (if k=4 then 0 else if k=5\/k=6 then cr (k,p,n) else 1)=a:=by rcases nk hr with⟨rfl,rfl,rfl⟩|⟨rfl,hp,rfl⟩|⟨rfl,hp,rfl⟩|⟨rfl,hp,rfl⟩|⟨rfl,hp,rfl⟩|⟨rfl,rfl,hn⟩|⟨rfl,hp,hn⟩|⟨rfl,hp,iR,rfl⟩;have e:cr (1,0,0)=1:=rfl;have b:a=0\/a=1:=(by omega);rcases b with rfl|rfl<;>decide;have e:cr (2,p,0)=p - 1:=rfl;have:=me hp;show a*1%p=a;rw[zbB,zaN (by omega) (by omega)];have e:cr (3,p,0)=p:=rfl;show min (a*1) p=a;omega;have e:cr (4,p,0)=p:=rfl;show min (a+0) p=a;omega;have e:cr (5,p,0)=p:=rfl;show min a p=a;omega;have e:cr (6,0,n)=2^n.toNat - 1:=rfl;have e2:(((2:Nat)^n.toNat:Nat):Int)=(2:Int)^n.toNat:=(by push_cast;rfl);show((a.toNat&&&(2^n.toNat - 1:Int).toNat:Nat):Int)=a;rw[show(2^n.toNat - 1:Int).toNat=2^n.toNat - 1 by omega,Nat.and_two_pow_sub_one_eq_mod,zar (by omega)];omega;omega;omega
theorem mul_one {r:Int×Int×Int} {x:U} (hr:bc r=true) (hx:bm r x=true):dg r x (cH r)=x:=by
 obtain⟨k,p,n⟩:=r;by_cases a:k=7\/k=8
 ·have c:=D4 hr a;rw[uo a,zS];simp only
  have f:cr (k,p,n)=p - 1:=by
   simp only[cr];rw[ak (by omega),ak (by omega),ak (by omega)]
  refine(tW fun t d=>?_).trans (NI (fJ hx));rw[Ow (x':=cE x) (y':=fun j=>if j=0 then 1 else 0) (fun _ _=>rfl) (fun i hi=>arm a hi),acB c _ _ d,zbB]
  have:=vn hx d;rw[f] at this;exact zaN this.1 (by omega)
 ·have b:=wD (r:=(k,p,n)) a;obtain⟨e,ha⟩:=zW hx b;have g:cH (k,p,n)=[if k=4 then 0 else if k=5\/k=6 then cr (k,p,n) else 1]:=by simp only[cH];exact ZI b
  rw[e,g,oJ a,axI hr a ha]
theorem B0 {k p n:Int} (hk:k=7\/k=8) (m:Int):s9 (k,p,n) m=gN (az (k,p,n)) fun j=>if j=0 then m%p else 0:=by simp only[s9];rw[ak (by omega),ah (by omega),QY,show be (gN (az (k,p,n)) _) 0 (m%p)=_ from abh _ 0 _];refine tW fun j _=>?_;by_cases h:j=0;rw[ah h,ah h];rw[ak h,ak h,ak h]
def r9:Int×Int×Int->Int->Int:=fun((k,p,n):Int×Int×Int) m=>if k=3 then min m p else if k=2 then m%p else if k=4 then 0 else if k=5\/k=6 then cr (k,p,n) else 1
theorem BZ {k p n:Int} (d:¬(k=7\/k=8)) (m:Int):s9 (k,p,n) m=[r9 (k,p,n) m]:=by
 have c:=wD (r:=(k,p,n)) d;have e:cH (k,p,n)=[if k=4 then 0 else if k=5\/k=6 then cr (k,p,n) else 1]:=by simp only[cH];exact ZI c
 simp only[s9,r9,e];by_cases a:k=3
 ·rw[ah a,ah a];rfl
 rw[ak a,ak a];by_cases b:k=2
 ·rw[ah (.inl b),ah b];rfl
 rw[ak (by omega),ak b]
theorem ao2 {k p n:Int} (hr:bc (k,p,n)=true) (hk:¬(k=7\/k=8)) {m:Int} (hm:0<=m):0<=r9 (k,p,n) m/\r9 (k,p,n) m<=cr (k,p,n):=by have h1:=abm hr;rcases nk hr with⟨rfl,rfl,rfl⟩|⟨rfl,hp,rfl⟩|⟨rfl,hp,rfl⟩|⟨rfl,hp,rfl⟩|⟨rfl,hp,rfl⟩|⟨rfl,rfl,hn⟩|⟨rfl,hp,hn⟩|⟨rfl,hp,iR,rfl⟩;have o:r9 (1,0,0) m=1:=rfl;have e:cr (1,0,0)=1:=rfl;omega;have e:cr (2,p,0)=p - 1:=rfl;have:=me hp;have q0:=zaj m (b:=p) (by omega);have q1:=zaa m (b:=p) (by omega);have o:r9 (2,p,0) m=m%p:=rfl;omega;have e:cr (3,p,0)=p:=rfl;have o:r9 (3,p,0) m=min m p:=rfl;omega;have e:cr (4,p,0)=p:=rfl;have o:r9 (4,p,0) m=0:=rfl;omega;have o:r9 (5,p,0) m=cr (5,p,0):=rfl;omega;have o:r9 (6,0,n) m=cr (6,0,n):=rfl;omega;omega;omega
theorem apW {r:Int×Int×Int} (hr:bc r=true) {m:Int} (hm:0<=m):bm r (s9 r m)=true:=by obtain⟨k,p,n⟩:=r;by_cases a:k=7\/k=8;rw[B0 a];have hp:=(D4 hr a).cp;have c:cr (k,p,n)=p - 1:=(by simp only[cr];rw[ak (by omega),ak (by omega),ak (by omega)]);refine KM fun j _=>?_;rw[c];have q0:=zaj m (b:=p) (by omega);have q1:=zaa m (b:=p) (by omega);split<;>omega;rw[BZ a];have:=ao2 hr a hm;simp[bm,wD (r:=(k,p,n)) a,pY,this]
theorem uv {r:Int×Int×Int} (hr:bc r=true) {m:Int} (hm:0<=m):bm r (il r m)=true:=by unfold il;split;exact rh hr;exact apW hr hm
theorem ao3 {k p n:Int} (hr:bc (k,p,n)=true) (hk:¬(k=7\/k=8)) {a b:Int} (ha:1<=a) (hb:1<=b):kl (k,p,n) (r9 (k,p,n) a) (r9 (k,p,n) b)=r9 (k,p,n) (a*b):=by rcases nk hr with⟨rfl,rfl,rfl⟩|⟨rfl,hp,rfl⟩|⟨rfl,hp,rfl⟩|⟨rfl,hp,rfl⟩|⟨rfl,hp,rfl⟩|⟨rfl,rfl,hn⟩|⟨rfl,hp,hn⟩|⟨rfl,hp,iR,rfl⟩;have o:∀m,r9 (1,0,0) m=1:=fun _=>rfl;rw[o,o,o];rfl;show(a%p)*(b%p)%p=a*b%p;rw[<-zac];show min (min a p*min b p) p=min (a*b) p;have d:=QJ (a:=a) (b:=1) (c:=min b p) (p:=p) (by omega) (by omega) (by omega) (by omega);have e:=QJ (a:=b) (b:=1) (c:=a) (p:=p) (by omega) (by omega) (by omega) (by omega);rw[zbB] at d e;rw[d,zbw a (min b p),e,zbw b a];show min (0+0) p=0;omega;show min p p=p;omega;show(((cr (6,0,n)).toNat&&&(cr (6,0,n)).toNat:Nat):Int)=cr (6,0,n);have:=zz hr;rw[zce];omega;omega;omega
theorem ao0 {r:Int×Int×Int} (hr:bc r=true) {a b:Int} (ha:1<=a) (hb:1<=b):dg r (s9 r a) (s9 r b)=s9 r (a*b):=by
 obtain⟨k,p,n⟩:=r;by_cases d:k=7\/k=8
 ·have c:=D4 hr d;rw[uo d,zS,B0 d,B0 d,B0 d];simp only
  refine tW fun t e=>?_;rw[Ow (x':=fun j=>if j=0 then a%p else 0) (y':=fun j=>if j=0 then b%p else 0) (fun i hi=>vu _ hi) (fun i hi=>vu _ hi),acB c _ _ e]
  by_cases h:t=0
  ·rw[ah h,ah h,<-zac]
  ·rw[ak h,ak h,Int.zero_mul];rfl
 ·rw[BZ d,BZ d,BZ d,oJ d,ao3 hr d ha hb]
theorem Vo {r:Int×Int×Int} (hr:bc r=true):cH r=s9 r 1:=by
 obtain⟨k,p,n⟩:=r;by_cases a:k=7\/k=8
 ·have hp:=(D4 hr a).cp;rw[B0 a,QY];refine tW fun j _=>?_;rw[ak (show¬k=4 by omega),ak (show¬(k=5\/k=6) by omega),zaN (by omega) (by omega)]
 ·rw[BZ a];have b:=wD (r:=(k,p,n)) a;have c:cH (k,p,n)=[if k=4 then 0 else if k=5\/k=6 then cr (k,p,n) else 1]:=by simp only[cH];exact ZI b
  rw[c];congr 1;rcases nk hr with⟨rfl,rfl,rfl⟩|⟨rfl,hp,rfl⟩|⟨rfl,hp,rfl⟩|⟨rfl,hp,rfl⟩|⟨rfl,hp,rfl⟩|⟨rfl,rfl,hn⟩|⟨rfl,hp,hn⟩|⟨rfl,hp,iR,rfl⟩
  ·rfl
  ·have:=me hp;show(1:Int)=1%p;rw[zaN (by omega) (by omega)]
  ·show(1:Int)=min 1 p;omega
  ·rfl
  ·rfl
  ·rfl
  ·omega
  ·omega
theorem acY {r:Int×Int×Int} (hr:bc r=true) {q:Int} (e:1<=q):∀m:Nat,iB r (il r q) m=s9 r (q^m)/\1<=q^m
 |0=>⟨by rw[zch];exact Vo hr,by rw[zch];omega⟩
 |m+1=>by obtain⟨g,f⟩:=acY hr e m;rw[iB,g,il,ak (by omega),ao0 hr f e,<-zaD];refine⟨rfl,?_⟩;rw[zaD];have:=zav (a:=1) (b:=1) (c:=q^m) (d:=q) f e (by omega) (by omega);omega
theorem Jc {r:Int×Int×Int} {g:Int×List (Int×Int)} {q:Int} {x:U} (h:kG r g q x=true):bc r=true/\fq g.1 g.2=true/\bm r x=true/\1<=q/\q<=4:=by simp only[kG,so,decide_eq_true_eq] at h;exact⟨(Vt h.1).1,(Vt h.1).2.1,(Vt h.1).2.2,h.2⟩
theorem adH {r:Int×Int×Int} {g:Int×List (Int×Int)} {q:Int} {x:U} (hr:bc r=true) (hx:bm r x=true) (a:1<=q):∀s,bm r (D7 r g q x s)=true
 |0=>rh hr
 |s+1=>tc hr (adH hr hx a s) (td hr (qz hr (uv hr (by omega)) _) (qz hr hx _))
theorem ayF {n:Int} {es:List (Int×Int)} {s:Int} (a:fq n es=true):0<=(parts n es s).1/\(parts n es s).1<=10:=by obtain⟨hn,_⟩:=pT a;rw[<-VT a];have hl:(jo n es s).length=n.toNat:=agL;have:=ac9 (fun i=>(jo n es s).getD i 0==(i:Int)) (jo n es s).length;unfold nE;omega
theorem aAk {es:List (Int×Int)} {s:Nat} (h:s<2^es.length):Rx es (s:Int)=true:=by have e:((2^es.length:Nat):Int)=2^es.length:=ayU _;simp only[Rx,decide_eq_true_eq];omega
abbrev Rg:=Int×Int×Int
abbrev T3:=U×U×U
abbrev qj:=Int×List U
def gC (r:Rg) (t:T3):Bool:=bc r&&(decide (0<=iF t.1 t.2.1)&&(decide ((t.2.2.length:Int)=iF t.1 t.2.1*kt r)&&t.2.2.all (pY (cr r))))
def abK:Rg×T3->Option Bool:=fun x=>if x.2.1.length<=1048576/\x.2.2.1.length<=1048576/\x.2.2.2.length<=1048576 then some (gC x.1 x.2) else none
def qX:Rg×T3->Option Bool:=abK
def abM:T3->Option T3:=fun x=>if x.1.length<=1048576/\x.2.1.length<=1048576/\x.2.2.length<=1048576 then some x else none
def Ks (R:List U) (ix:U) (i:Nat):Int:=(R.getD i []).getD (ix.getD i 0).toNat 0
def amV (x:qj×U):Prop:=(1<=x.1.1/\x.1.1<=12)/\x.2.length<=12/\∀i,i<x.2.length->i<x.1.2.length/\(0<=x.2.getD i 0/\(x.2.getD i 0).toNat<(x.1.2.getD i []).length)/\0<=Ks x.1.2 x.2 i/\Ks x.1.2 x.2 i<=12
instance (x:qj×U):Decidable (amV x):=by unfold amV;infer_instance
def BE:U->Option Int:=fun l=>if(l.length<=12\/l.length<=1000/\aU l<=1073741824)/\∀v∈l,1<=v/\v<=8 then some (fF l) else none
def iC (l:U) (o:Nat) (x:U):U:=l.take o++x++l.drop (o+x.length)
def aj2 (x:Rg×T3×Int×U):Prop:=bc x.1=true/\0<=x.2.2.1/\x.2.2.1.toNat*az x.1+x.2.2.2.length<=x.2.1.2.2.length/\x.2.1.2.2.length<=1048576
instance (x:Rg×T3×Int×U):Decidable (aj2 x):=by unfold aj2;infer_instance
def O7 (x:Rg×T3×Int):Prop:=bc x.1=true/\0<=x.2.2/\(x.2.2.toNat+1)*az x.1<=x.2.1.2.2.length/\x.2.1.2.2.length<=1048576
instance (x:Rg×T3×Int):Decidable (O7 x):=by unfold O7;infer_instance
def DY (D:U) (c:qj) (n:Nat):Bool:=decide (sm D.length (Ks c.2 (bi D n))%c.1≠0)
def yk (r:Rg) (D:U) (c:qj) (A:U):Nat->U
 |0=>A
 |k+1=>if DY D c k=true then iC (yk r D c A k) (k*az r) (d9 r) else yk r D c A k
def ac4 (x:Rg×T3×qj):Prop:=(x.2.1.1.length<=1048576/\x.2.1.2.1.length<=1048576/\x.2.1.2.2.length<=1048576)/\OC (x.2.1,x.2.2)
instance (x:Rg×T3×qj):Decidable (ac4 x):=by unfold ac4;infer_instance
def KD (r:Rg) (t:T3) (c:qj):T3×Bool:=if gC r t=true/\Vf (t,c)=true then((t.1,t.2.1,yk r t.2.1 c t.2.2 (aU t.2.1)),true) else(([],[],[]),false)
def KB (r:Rg) (t:T3) (c:qj):Bool:=decide (gC r t=true/\Vf (t,c)=true/\yk r t.2.1 c t.2.2 (aU t.2.1)=t.2.2)
def TB (NN:Nat):((Int×(Int×Int))×(U×(U×U)))->(Option Bool):=
 (fun((i0,i1,i2),l3,l4,l5)=>
 (qW (i0,i1,i2)).ab (fun b6=>
 aD (dz b6)
 (some false)
 ((zB (l3,l4,l5)).ab (fun i7=>
 aD (jA i7 ((-1:Int)))
 ((ov (i0,i1,i2)).ab (fun i8=>
 aD (bq (aM (ae l5)) (gY .i64 i7 i8))
 ((BC ((i0,i1,i2),l5)).ab (fun b9=>
 some b9))
 (some false)))
 (some false)))))
def TY (NN:Nat):U->(Option Int):=
 (fun l0=>
 cN (cL NN (fun(i1,l2,i3,i4)=>
 aD (cI i4 i3)
 ((cV l2 i4).ab (fun i5=>
 some (wt (gY .i64 i1 i5,l2,i3,bC .i64 i4 1))))
 (some (IT (wt i1))))
 ((1:Int),l0,aM (ae l0),(0:Int)))
 (fun i6=>
 some i6))
theorem bt {α β:Type} (x:α) (f:α->Option β):(some x).ab f=f x:=by
 have h:∀o:Option α,o=some x->o.ab f=f x:=by intro o h;subst h;rfl
 exact h _ rfl
theorem xQ {r:Rg} {L D A:U} (h:gC r (L,D,A)=true):bc r=true/\(D.length<=12/\(∀x∈D,1<=x/\x<=8))/\iF L D=(aU D:Int)/\(1<=aU D/\aU D<=4096)/\A.length=aU D*az r/\jl D/\acC 4096 D=(aU D:Int)/\fF D=(aU D:Int)/\A.all (pY (cr r))=true:=by simp only[gC,so,decide_eq_true_eq] at h;obtain⟨c,b,d,g⟩:=h;have f:=ku c;by_cases ha:mz L D=true/\fF D<=4096;have e:iF L D=fF D:=ah ha;have hd:=wS ha.1;have hl:=mA ha.1;have a:=AV (D:=D) fun x hx=>(hd x hx).1;have i:=AW (D:=D) fun x hx=>(hd x hx).1;refine⟨c,⟨by omega,hd⟩,e.trans a,⟨i,by omega⟩,?_,⟨by omega,fun x hx=>by have:=hd x hx;omega⟩,?_,a,g⟩;rw[e,a,f.1] at d;exact_mod_cast d;unfold acC;rw[acD (by decide) _ 0 1 (fun x hx=>(hd x hx).1) (by decide) (by decide),zbX,a,zbY (by omega)];have e:iF L D= -1:=ak ha;rw[e] at b;exact absurd b (by decide)
theorem anf (L D:U):iF L D= -1\/(0<=iF L D/\iF L D<=4096):=by unfold iF;split;rename_i h;have hd:=wS h.1;have hI:=AV (D:=D) fun x hx=>(hd x hx).1;right;omega;exact .inl rfl
theorem aBf {L D:U} {r:Rg} (h:bc r=true) (b:0<=iF L D):gY .i64 (iF L D) (kt r)=iF L D*kt r:=by have hw:=ku h;have a:iF L D<=4096:=(by rcases anf L D with e|e;omega;exact e.2);have h2:iF L D*kt r<=4096*6:=zav a (by omega) (by omega) (by decide);have h3:0<=iF L D*kt r:=za4 b (by omega);exact tK
theorem aqM (x:Rg×T3) (y:Bool) (h:qX x=some y):TB aP x=some y:=by obtain⟨⟨k,p,n⟩,L,D,A⟩:=x;simp only[qX,abK] at h;split at h;rename_i a;rw[<-h];simp only[TB,qW,bt];(cases hr:bc (k,p,n) with|false=>rw[bL (b:=dz false) rfl];simp[gC,hr]|true=>rw[aZ (b:=dz true) rfl,show zB (L,D,A)=some (iF L D) from ah ⟨a.1,a.2.1⟩];simp only[bt];by_cases c:0<=iF L D;rw[bL (show jA _ _=true from bne_iff_ne.2 (by omega))];simp only[ov,bt];rw[aBf hr c,nl];by_cases hl:(A.length:Int)=iF L D*kt (k,p,n);rw[bL (show bq _ _=true from beq_iff_eq.2 hl),show BC ((k,p,n),A)=some _ from ah ⟨hr,by have:=a.2.2;omega⟩,bt];simp[gC,hr,c,hl];rw[aZ (show bq _ _=false from beq_eq_false_iff_ne.2 hl)];simp[gC,hr,hl];have:iF L D= -1:=(by rcases anf L D with e|e<;>omega);rw[aZ (show jA _ _=false by unfold jA;rw[this];rfl)];simp[gC,hr,c]);cases h
theorem ajX:∀(l:U) (k:Nat),aU l=aU (l.take k)*aU (l.drop k)
 |[],k=>by simp[aU]
 |x::l,0=>by simp[aU]
 |x::l,k+1=>by simp only[List.take_succ_cons,List.drop_succ_cons,aU];rw[ajX l k,Nat.mul_assoc]
theorem aq0 (x:U) (y:Int) (h:BE x=some y):TY aP x=some y:=by simp only[BE] at h;split at h;rename_i m;rw[<-h];obtain⟨hl,d⟩:=m;have hb:∀k,k<=x.length->1<=fF (x.take k)/\fF (x.take k)<=68719476736:=(by rcases hl with hl|hl;have hb:∀k,k<=x.length->1<=fF (x.take k)/\fF (x.take k)<=8^k:=(by intro k;induction k with|zero=>exact fun _=>⟨zbD 1,zbD 1⟩|succ k n=>intro a;obtain⟨i1,i2⟩:=n (by omega);have b:=d _ (zaw (getD_some 0 (show k<x.length by omega)));rw[IM (by omega)];have e:1*1<=fF (x.take k)*x.getD k 0:=zav i1 b.1 (by decide) (by omega);have c:fF (x.take k)*x.getD k 0<=8^k*8:=zav i2 b.2 (by omega) (by exact Int.pow_nonneg (by decide));exact⟨by omega,by rw[zaD];exact c⟩);have j:∀k,k<=12->(8:Int)^k<=68719476736:=(by decide);intro k a;have b:=hb k a;have f:=j k (by omega);omega;intro k a;have hp:∀(l:U),(∀v∈l,v∈x)->1<=aU l:=fun l hs=>AW fun v i=>(d v (hs v i)).1;have b:=hp (x.take k) fun v h=>zaT h;have f:=hp (x.drop k) fun v h=>zaU h;have h3:=ajX x k;have h4:aU (x.take k)*1<=aU (x.take k)*aU (x.drop k):=zbE _ f;have h5:=AV (D:=x.take k) fun v h=>(d v (zaT h)).1;omega);simp only[TY];rw[gw (fun k=>(fF (x.take k),x,aM (ae x),(k:Int))) x.length ?e ?c ?a3 eZ];(case a3=>rfl);(case c=>dsimp only;rw[aZ (Ir x)]);(case e=>intro k a;have g:=getD_some (0:Int) a;have b:=hb (k+1) (by omega);rw[IM a] at b;dsimp only;rw[bL (eD (by rw[nl];omega)),fC,g,bt,tK,ez,<-IM a];rfl);simp only[cN,Option.bind,zbg];cases h
def zC:Rg×T3×Int->Option (Int×Int):=fun x=>if O7 x then some (((x.2.2.toNat*az x.1:Nat):Int),(((x.2.2.toNat+1)*az x.1:Nat):Int)) else none
def Gp:T3->Option T3:=abM
def T0 (NN:Nat):((Int×(Int×Int))×((U×(U×U))×Int))->(Option (Int×Int)):=
 (fun((i0,i1,i2),(l3,l4,l5),i6)=>
 (ov (i0,i1,i2)).ab (fun i7=>
 (jg (gY .i64 i6 i7) (gY .i64 (bC .i64 i6 1) i7) (ae l5)).ab (fun(k8,k9)=>
 (cM (0:Int) (ae l5)).ab (fun Qg=>
 some (aM (aw 0 k8),aM (aw (aw 0 k8) k9))))))
def TN (NN:Nat):(U×(U×U))->(Option (U×(U×U))):=
 (fun(l0,l1,l2)=>
 (j7 l0).ab (fun l3=>
 (j7 l1).ab (fun l4=>
 (j7 l2).ab (fun l5=>
 (cB l3 (ae l3)).ab (fun l6=>
 (cB l4 (ae l4)).ab (fun l7=>
 (cB l5 (ae l5)).ab (fun l8=>
 some (l6,l7,l8))))))))
theorem H6 {α:Type} {a b:Prop} [Decidable a] [Decidable b] (h:a↔b) (x y:α):(if a then x else y)=if b then x else y:=by simp only[h]
theorem MD {a b:Nat} (h:a*b<=1099511627776:=by omega):gY .i64 (a:Int) (b:Int)=((a*b:Nat):Int):=by have e:(a:Int)*(b:Int)=((a*b:Nat):Int):=(Int.natCast_mul a b).symm;rw[tK,e]
theorem azd {l:U} {o:Nat} {x:U} (h:o+x.length<=l.length):(iC l o x).length=l.length:=by unfold iC;simp only[Pe,zan,List.length_drop];omega
theorem azc {l:U} {o:Nat} {x:U} (h:o+x.length<=l.length) (q:Nat):(iC l o x)[q]? =if q<o then l[q]? else if q<o+x.length then x[q - o]? else l[q]? :=by unfold iC;have c:(l.take o).length=o:=(by rw[zan];omega);have d:(l.take o++x).length=o+x.length:=(by rw[Pe,c]);by_cases a:q<o;rw[ah a,zau (by omega),zau (by omega),za2,ah a];rw[ak a];by_cases b:q<o+x.length;rw[ah b,zau (by omega),zae (by omega),c];rw[ak b,zae (by omega),d,zaK];congr 1;omega
theorem S3 {r:Rg} (h:bc r=true):(d9 r).length=az r:=by have:=rh h;simp only[bm,so,decide_eq_true_eq] at this;exact this.1
theorem ac5 {r:Rg} {D A:U} {c:qj} {N:Nat} (hr:bc r=true) (b:A.length=N*az r):∀k,k<=N->(yk r D c A k).length=A.length
 |0,_=>rfl
 |k+1,hk=>by have a:=ac5 (D:=D) (c:=c) hr b k (by omega);have hm:(k+1)*az r<=N*az r:=zaV _ hk;rw[zbd,zaZ] at hm;unfold yk;split;rw[azd (by rw[S3 hr,a];omega)];exact a;exact a
theorem Vr {r:Rg} {D A:U} {c:qj} {N:Nat} (hr:bc r=true) (j:A.length=N*az r) (q:Nat):∀k,k<=N->(yk r D c A k)[q]? =if q/az r<k/\DY D c (q/az r)=true then(d9 r)[q%az r]? else A[q]?
 |0,_=>by rw[ak (fun h=>zbZ _ h.1)];rfl
 |k+1,hk=>by have i:=Vr (D:=D) (c:=c) hr j q k (by omega);have hw:=(ku hr).2.1;have hm:(k+1)*az r<=N*az r:=zaV _ hk;rw[zbd,zaZ] at hm;have hdm:=zaY q (az r);have PL:=zb6 q (show 0<az r by omega);unfold yk;by_cases hb:DY D c k=true;rw[ah hb,azc (by rw[S3 hr,ac5 hr j k (by omega)];omega),S3 hr,i];by_cases e:q/az r=k;subst e;rw[ak (by rw[zah];omega),ah (by rw[zah];omega),ah ⟨by omega,hb⟩];congr 1;rw[zah];omega;have l:¬(¬q<k*az r/\q<k*az r+az r):=(by rintro⟨f,d⟩;apply e;apply Nat.div_eq_of_lt_le;rw[zah];rw[zah] at f;omega;rw[zbd,zaZ];omega);have g:(q/az r<k/\DY D c (q/az r)=true)↔(q/az r<k+1/\DY D c (q/az r)=true):=(by constructor;rintro⟨f,d⟩;exact⟨by omega,d⟩;rintro⟨f,d⟩;exact⟨by omega,d⟩);by_cases a:q<k*az r;rw[ah a];exact H6 g _ _;rw[ak a,ak (fun b=>l ⟨a,b⟩)];exact H6 g _ _;rw[ak hb,i];refine H6 ?_ _ _;constructor;rintro⟨f,d⟩;exact⟨by omega,d⟩;rintro⟨f,d⟩;refine⟨?_,d⟩;by_cases e:q/az r=k;rw[e] at d;exact absurd d hb;omega
theorem ape {r:Rg} {D A:U} {c:qj} {N:Nat} (hr:bc r=true) (b:A.length=N*az r):yk r D c A N=A↔∀n,n<N->DY D c n=true->fG A (n*az r) (az r)=d9 r:=by have hw:=(ku hr).2.1;constructor;intro h n hn hb;have hm:(n+1)*az r<=N*az r:=zaV _ hn;rw[zbd,zaZ] at hm;apply zag;intro j;unfold fG;rw[za2,zaK];by_cases hj:j<az r;rw[ah hj];have hd:(n*az r+j)/az r=n:=(by rw[zah,Nat.mul_add_div (by omega),zbf hj,zbo]);have d:(n*az r+j)%az r=j:=(by rw[zah,Nat.mul_add_mod,zar hj]);have:=Vr (D:=D) (c:=c) hr b (n*az r+j) N (Pd _);rw[h,hd,d,ah ⟨hn,hb⟩] at this;exact this;rw[ak hj,BY (by rw[S3 hr];omega)];intro h;apply zag;intro q;rw[Vr hr b q N (Pd _)];split;rename_i a;have:=h _ a.1 a.2;have f:=zb6 q (show 0<az r by omega);have e:=congrArg (fun l=>l[q%az r]?) this;unfold fG at e;simp only[za2,zaK,ah f] at e;rw[<-e];congr 1;rw[zah];exact zaY q (az r);rfl
theorem aq2 (x:Rg×T3×Int) (y:Int×Int) (h:zC x=some y):T0 aP x=some y:=by obtain⟨⟨k,p,m⟩,⟨L,D,A⟩,n⟩:=x;simp only[zC] at h;split at h;rename_i f;rw[<-h];obtain⟨hr,d,c,g⟩:=f;dsimp only at hr d c g;obtain⟨n,rfl⟩:=jc d;have e:=ku hr;simp only[AT] at c⊢;have i:(n+1)*az (k,p,m)=n*az (k,p,m)+az (k,p,m):=(by rw[zbd,zaZ]);have hn:n+1<=1048576:=(by have:=Nat.le_mul_of_pos_right (n+1) (show 0<az (k,p,m) by omega);omega);simp only[T0,ov,bt];rw[e.1,ez,show(n:Int)+1=((n+1:Nat):Int) by push_cast;rfl];rw[MD (a:=n) (b:=az (k,p,m)) (by omega)];rw[MD (a:=n+1) (b:=az (k,p,m)) (by omega)];rw[show jg ((n*az (k,p,m):Nat):Int) (((n+1)*az (k,p,m):Nat):Int) (ae A)=some (n*az (k,p,m),az (k,p,m)) by unfold jg ae;rw[ah ⟨by omega,by omega,by omega⟩];congr 2;omega];simp only[bt];rw[show cM (0:Int) (ae A)=some 0 by unfold cM ae;rw[ah ⟨by omega,by omega⟩];rfl];simp only[bt,aM,aw,zat];rw[i];cases h
theorem aqS (x:T3) (y:T3) (h:Gp x=some y):TN aP x=some y:=by obtain⟨L,D,A⟩:=x;simp only[Gp,abM] at h;split at h;rename_i a;rw[<-h];obtain⟨h1,h2,h3⟩:=a;simp only[TN];rw[show j7 L=some L from ah (by omega),show j7 D=some D from ah (by omega),show j7 A=some A from ah (by omega)];simp only[bt,gT];cases h
end Go.Am
