/- S7, MB, B0, B1, B2, MT, Mx, M1, M4, M5, M11, M22, M6, M7, M8, M9, M23, M24, M25, M31, Fm, M14, M15, M16, M17, M19, M33, M32, M34, M62, M64, M36, M18, M38, M48, M49, M50, M51, M52, M12, M20, M21, M53, M56, M65, M66: parts of the proof. No condition. -/
import Derived.Test.YtaaeocdagekdcaaAmZ
import Derived.Laws.BitsLemmas
import Derived.Lib.BitFns
set_option linter.unusedVariables false
set_option linter.unusedSimpArgs false
set_option synthInstance.maxSize 1000
set_option synthInstance.maxHeartbeats 400000
set_option linter.unusedSectionVars false
open Sum renaming inl->co,inr->AI
open List renaming getElem?_eq_getElem->wt,getD_eq_getElem?_getD->By,mem_of_getElem?->BY,getElem?_eq_none->GB,map_cons->If,length_take->IN,getElem?_eq_some_iff->OF,ext_getElem?->Pd,length_cons->zab,length_map->zad,length_append->zae,all_eq_true->zaf,filterMap_cons->zah,getElem?_append_right->zaj,take_length->zak,range->zal,getElem?_take->zao,mem_cons_of_mem->zar,length_nil->zay,sum_cons->zaB,getElem?_append_left->zaD,getElem?_drop->zaE,mem_cons_self->zaF,getElem?_set_self->zaI,getElem?_map->zaK,take_add_one->zaL,mem_range->zaM,drop_length->zaQ,mem_iff_getElem->zaR,mem_of_mem_take->zaS,mem_of_mem_drop->zaT,range'->zaW,map_congr_left->zaX,getElem?_zip_eq_some->za4,set_append_right->za9,take_append_drop->zba,map_append->zbb,map->zbf,getElem?_set_ne->zbh,replicate->zbi,replicate_succ->zbk,getElem?_range->zbn,all_cons->zbq,set_cons_zero->zbr,append_assoc->zbw,any_eq_false->zbx,length_range->zby,map_nil->zbB,cons_append->zbD,length_drop->zbE,getElem_mem->zbH,length->zbI,range_succ->zbO,take_left->zbQ,drop_left->zbR,getD->zbV
open Int renaming toNat_natCast->AN,mul_emod->Pe,emod_lt_of_pos->zaa,mul_le_mul_of_nonneg_left->zag,emod_nonneg->zai,natCast_mul->zat,mul_le_mul->zav,le_refl->zaz,emod_emod->zaG,pow_succ->zaO,emod_add_mul_ediv->zaP,mul_assoc->zaV,tmod_eq_emod_of_nonneg->zaZ,mul_nonneg->za5,one_mul->zbl,emod_eq_of_lt->zbz,mul_one->zbJ,min_eq_left->zbK,mul_neg->zbP,add_zero->zbX,add_emod->zb0,sub_emod->zb1,mul_comm->zb2
open Bool renaming and_eq_true->AT,true_and->zac,not_eq_true'->zbv
open Nat renaming mul_comm->IS,le_refl->IT,mod_eq_of_lt->zam,zero_add->zan,one_mul->zap,add_mul->zaq,mul_le_mul_right->zas,le_mul_of_pos_right->zau,dvd_of_mod_eq_zero->zaw,mul_le_mul->zaC,mod_eq_zero_of_dvd->zaJ,ble_eq_true_of_le->zaN,pow_le_pow_right->zaU,div_add_mod->zaY,lt_or_ge->za0,pow_succ->za1,eq_zero_or_pos->za2,le_trans->za3,add_mul_mod_self_left->za6,div_div_eq_div_mul->za7,le_of_ble_eq_true->za8,sub_self->zbc,div_le_self->zbe,mod_lt->zbg,ble->zbj,zero_le->zbm,mul_one->zbo,mul_le_mul_left->zbp,dvd_trans->zbs,add_sub_cancel->zbt,mul_assoc->zbu,add_zero->zbA,sub_zero->zbC,div_eq_of_lt->zbF,lt_succ_self->zbG,not_lt_zero->zbL,mul_pos->zbM,add_mod->zbN,le_of_dvd->zbT,and_assoc->zbU,succ_div->zbW,pow_zero->zbY,add_comm->zbZ,div_one->zb3
open Option renaming map_some->zax,bind->zaA,map_eq_some_iff->zaH
open Option.some renaming inj->zbd
open List.cons renaming inj->zbS
namespace Go.Am
def Nb (k:K) (ts:List Ty) (x:Ty.DL ts):SV:=
 match k with
 |.one=>match Ty.cells ts x with
  |[c]=>.one c
  |_=>.one .cC
 |.agg=>.agg (Ty.cells ts x)
 |.ptr=>.one (.eU ts x 0)
theorem ajg (k:K) (ts:List Ty) (x:Ty.DL ts):(Nb k ts x).er=EC (k,Ty.bu ts x):=by
 cases k with
 |one=>
  match ts,x with
  |[],x=>rfl
  |[t],x=>rfl
  |t::u::[],x=>rfl
  |t::u::v::ts,x=>rfl
 |agg=>simp only[Nb,SV.er,EC,Ty.pH]
 |ptr=>rfl
def Nk:Nat->(as:aR)->bt as.br->(Nat->SV)
 |_,[],_=>fun _=>.one .cC
 |k,[a],x=>bj (fun _=>.one .cC) k (Nb a.1 a.2 x)
 |k,a::b::as,x=>bj (Nk (k+1) (b::as) x.2) k (Nb a.1 a.2 x.1)
theorem ak6:∀(k:Nat) (as:aR) (x:bt as.br),vW (Nk k as x)=zx k (eZ as x)
 |k,[],x=>rfl
 |k,[a],x=>by have e:(Nb a.1 a.2 x).er=EC (a.1,Ty.bu a.2 x):=ajg a.1 a.2 x;simp only[Nk,eZ,zx,CK];rw[e];rfl
 |k,a::b::as,x=>by have c:=ak6 (k+1) (b::as) x.2;simp only[Nk,eZ,CK,ajg,c];rw[zx]
def Y1 (as:aR) (x:bt as.br):aq:={env:=Nk 0 as x,h:=fun _=>none,used:=fun n=>zbj aY n}
theorem aAs (as:aR) (x:bt as.br):(Y1 as x).er=Mf (eZ as x):=by simp only[Y1,aq.er,Mf,ak6];rfl
section
variable {ρ:Type}
def B0 (σ:aq):List bU->(List SV->Option ρ)->Option ρ
 |[],k=>k []
 |.tmp t::ms,k=>B0 σ ms fun vs=>k (σ.env t::vs)
 |.cell t sz ag::ms,k=>match σ.env t with
  |.one p=>RD σ.h p sz fun cs=>B0 σ ms fun vs=>k (NC ag cs::vs)
  |_=>none
theorem J3 {σ:aq}:∀{a:List bU} {k:List SV->Option ρ} {r:ρ},B0 σ a k=some r->∃vs,σ.er.wK a=some (vs.map SV.er)/\k vs=some r
 |[],k,r,h=>⟨[],rfl,h⟩
 |.tmp t::a,k,r,h=>by simp only[B0] at h;obtain⟨vs,c,b⟩:=J3 h;exact⟨_,by simp only[St.wK,c];rfl,b⟩
 |.cell t sz ag::a,k,r,h=>by simp only[B0] at h;split at h;rename_i p f;obtain⟨cs,c,b⟩:=ald h;obtain⟨vs,d,g⟩:=J3 b;have e:σ.er.env t=.one p.er:=(by show(σ.env t).er=_;rw[f];rfl);have i:loadAt σ.er.h p.er sz=some (cs.map SC.er):=c;exact⟨_,by simp only[St.wK,e,i,d,If,Sa],g⟩;cases h
def Zl (h:Nat->Option SB) (c:SC) (k:(t:Ty)->t.D->List Nat->Option ρ):Option ρ:=
 match c with
 |.v t x=>iC t.gU (k t x [])
 |.nil ts=>match ts with
  |[]=>none
  |t::us=>k (.list (t::us)) ([]:List (Ty.DL (t::us))) []
 |.sl n sz lo len=>match h n with
  |some (.row true m ts xs)=>eu ts.length sz (iC m.own (eu lo 0 ((ed xs len).ae fun ys=>k (.list ts) ys [n])))
  |_=>none
 |_=>none
theorem aAJ {h:Nat->Option SB} {c:SC} {k:(t:Ty)->t.D->List Nat->Option ρ} {r:ρ} (hx:Zl h c k=some r): ∃(t:Ty) (x:t.D) (ns:List Nat),p9 (e8 h) c.er=some (t.er x,ns)/\k t x ns=some r:=by unfold Zl at hx;split at hx;rename_i t x;have b:=(d9 hx).1;replace hx:=(d9 hx).2;exact⟨t,x,[],by simp only[SC.er,p9,Ty.D1,b,if_true],hx⟩;split at hx;cases hx;rename_i t us;exact⟨.list (t::us),[],[],by simp[SC.er,p9,Ty.er],hx⟩;rename_i n sz lo len;split at hx;rename_i m ts xs hn;have a:=(bW hx).1;replace hx:=(bW hx).2;subst a;have hm:=(d9 hx).1;replace hx:=(d9 hx).2;have a:=(bW hx).1;replace hx:=(bW hx).2;subst a;rw[gw] at hx;obtain⟨ys,e,hx⟩:=hx;obtain⟨d,f⟩:=alR e;refine⟨.list ts,ys,[n],?_,hx⟩;have g:m≠ .bn:=(by rintro rfl;cases hm);simp only[SC.er,p9,e8,hn,zax,SB.er,zad,d,f,ne_eq,g,not_false_eq_true,and_self,if_true,Ty.er];cases hx;cases hx
def RP (h:Nat->Option SB):List SC->(List TD->List Nat->Option ρ)->Option ρ
 |[],k=>k [] []
 |c::cs,k=>Zl h c fun t x ns=>RP h cs fun l pY=>k (⟨t,x⟩::l) (ns++pY)
theorem alz {h:Nat->Option SB}:∀{cs:List SC} {k:List TD->List Nat->Option ρ} {r:ρ},RP h cs k=some r-> ∃l ns,zT (e8 h) (cs.map SC.er)=some (eM l,ns)/\k l ns=some r
 |[],k,r,hx=>⟨[],[],rfl,hx⟩
 |c::cs,k,r,hx=>by simp only[RP] at hx;obtain⟨t,x,ns,e,a⟩:=aAJ hx;obtain⟨l,b,d,f⟩:=alz a;exact⟨⟨t,x⟩::l,ns++b,by simp[zT,e,d,eM],f⟩
def kOf:Bool->K
 |true=>.agg
 |false=>.one
def Nu (h:Nat->Option SB):List SV->(List dB->List Nat->Option ρ)->Option ρ
 |[],k=>k [] []
 |v::vs,k=>match v.cells? with
  |some (ag,cs)=>RP h cs fun l ns=>Nu h vs fun ds pY=>k ((kOf ag,l)::ds) (ns++pY)
  |none=>none
theorem Zm {h:Nat->Option SB}:∀{vs:List SV} {k:List dB->List Nat->Option ρ} {r:ρ},Nu h vs k=some r-> ∃ds ns,wN (e8 h) (vs.map SV.er)=some (ds.map dB.er,ns)/\k ds ns=some r
 |[],k,r,hx=>⟨[],[],rfl,hx⟩
 |v::vs,k,r,hx=>by simp only[Nu] at hx;split at hx;rename_i ag cs d;obtain⟨l,ns,c,a⟩:=alz hx;obtain⟨ds,pY,b,e⟩:=Zm a;refine⟨_,_,?_,e⟩;simp only[If,wN,SV.pH d,c,b];cases ag<;>rfl;cases hx
end
def MI:List Nat->Bool
 |[]=>true
 |n::l=> !(l.contains n)&&MI l
theorem XS:∀{l:List Nat},MI l=true->l.Nodup
 |[],_=>List.nodup_nil
 |n::l,h=>by simp only[MI,AT,zbv] at h;rw[List.nodup_cons];refine⟨fun hm=>?_,XS h.2⟩;have:l.contains n=true:=(by simpa using hm);rw[this] at h;cases h.1
def RO (σ:aq) (ms:List bU) (aJ:aR):Option (bt aJ.br):=
 B0 σ ms fun vs=>Nu σ.h vs fun ds ns=>iC (MI ns) (tu aJ ds)
theorem aly {σ:aq} {a:List bU} {aJ:aR} {y:bt aJ.br} (h:RO σ a aJ=some y):σ.er.zS a=some (eZ aJ y):=by unfold RO at h;obtain⟨vs,g,c⟩:=J3 h;obtain⟨ds,ns,d,b⟩:=Zm c;have e:=(d9 b).1;replace h6:=(d9 b).2;have f:wN σ.er.h (vs.map SV.er)=some (ds.map dB.er,ns):=d;simp only[St.zS,g,f,aj (XS e),yg h6]
def dK (N:Nat) (T:List aF) (sc:bV) (ms:List bU) (args aJ:aR) (x:bt args.br):Option (bt aJ.br):=
 pu N T sc (Y1 args x) (fun σ=>RO σ ms aJ) (fun _ _=>none) (fun σ=>RO σ ms aJ)
theorem azO {T:List aF} {b:bV} {c:List bU} {args aJ:aR} {x:bt args.br} {y:bt aJ.br} (h:dK aN T b c args aJ x=some y): QU (eE T) b.er c (eZ args x)=some (eZ aJ y):=by obtain⟨o,e,a⟩:=vA b h;rw[aAs] at e;unfold QU;rw[e];cases o with|iH τ=>obtain⟨d,rfl,a⟩:=a;exact aly a|ret τ=>obtain⟨d,rfl,a⟩:=a;exact aly a|ext i τ=>obtain⟨d,rfl,a⟩:=a;cases a
theorem EU:∀(as:aR) (x:bt as.br),(eZ as x).length=as.length
 |[],_=>rfl
 |[a],_=>rfl
 |a::b::as,x=>by simp only[eZ,zab,EU (b::as) x.2]
def vz:Nat->List (Option Mode)->List TD->List SC
 |c,some _::fs,⟨.list ts,xs⟩::l=>.sl (aY+c) ts.length 0 (ab (α:=Ty.DL ts) xs)::vz (c+1) fs l
 |c,some _::fs,⟨.int _,_⟩::l=>.cC::vz (c+1) fs l
 |c,some _::fs,⟨.bool,_⟩::l=>.cC::vz (c+1) fs l
 |c,none::fs,x::l=>.v x.1 x.2::vz c fs l
 |c,[],l=>l.map fun x=>.v x.1 x.2
 |c,_::_,[]=>[]
theorem M9:∀(c:Nat) (a:List (Option Mode)) (l:List TD),(vz c a l).map SC.er=kQ c a (eM l)
 |c,some m::a,⟨.list ts,xs⟩::l=>by simp only[vz,eM,If,Ty.er,kQ,SC.er];have:=M9 (c+1) a l;simp only[eM] at this;rw[this];exact congrArg (fun q=>ar.sl (aY+c) ts.length 0 q::_) (zad (Ty.bu ts)).symm
 |c,some m::a,⟨.int k,x⟩::l=>by simp only[vz,eM,If,Ty.er,kQ,SC.er];exact congrArg _ (M9 (c+1) a l)
 |c,some m::a,⟨.bool,x⟩::l=>by simp only[vz,eM,If,Ty.er,kQ,SC.er];exact congrArg _ (M9 (c+1) a l)
 |c,none::a,⟨t,x⟩::l=>by simp only[vz,eM,If,kQ,SC.er];exact congrArg _ (M9 c a l)
 |c,[],l=>by cases l<;>simp[vz,eM,kQ,SC.er]
 |c,some m::a,[]=>rfl
 |c,none::a,[]=>rfl
def YL (c:Nat) (s:List (Option Mode)) (ts:List Ty) (x:Ty.DL ts):SC:=
 match s with
 |[]=>.eU ts x 0
 |_::_=>match(Ty.jT ts x).getLast? with
  |some ⟨.list us,l⟩=>.dW ts x 0 (ts.length - 1) (aY+c) us.length (ab l)
  |_=>.cC
theorem az4 (c:Nat) (s:List (Option Mode)) (ts:List Ty) (x:Ty.DL ts):(YL c s ts x).er=KJ c s (Ty.bu ts x):=by cases s with|nil=>rfl|cons f fs=>have a:Ty.bu ts x=(Ty.jT ts x).map fun y=>y.1.er y.2:=(Ty.tW ts x).symm;have b:(Ty.bu ts x).length=ts.length:=Ty.HZ ts x;simp only[YL,KJ];rw[b,a,List.getLast?_map];cases hl:(Ty.jT ts x).getLast? with|none=>rfl|some y=>obtain⟨t,l⟩:=y;cases t with|list us=>simp only[zax,Ty.er,SC.er,a,ab];exact congrArg (ar.dW _ 0 (ts.length - 1) (aY+c) us.length) (zad (as:=(l:List (Ty.DL us))) (Ty.bu us)).symm|int k=>rfl|bool=>rfl
def Na (c:Nat) (s:List (Option Mode)) (d:K×List Ty) (x:Ty.DL d.2):SV:=
 match d.1 with
 |.one=>match vz c s (Ty.jT d.2 x) with
  |[y]=>.one y
  |_=>.one .cC
 |.agg=>.agg (vz c s (Ty.jT d.2 x))
 |.ptr=>.one (YL c s d.2 x)
theorem ajf (c:Nat) (s:List (Option Mode)) (d:K×List Ty) (x:Ty.DL d.2):(Na c s d x).er=uQ c s (d.1,Ty.bu d.2 x):=by
 obtain⟨k,ts⟩:=d;have h:=M9 c s (Ty.jT ts x);rw[Ty.tW] at h;cases k with
 |one=>
  simp only[Na,uQ,<-h];generalize vz c s (Ty.jT ts x)=l;match l with
  |[]=>rfl
  |[y]=>rfl
  |_::_::_=>rfl
 |agg=>simp only[Na,uQ,<-h,SV.er]
 |ptr=>exact congrArg aE.one (az4 c s ts x)
def Nl:Nat->Nat->cX->(as:aR)->bt as.br->(Nat->SV)
 |_,_,_,[],_=>fun _=>.one .cC
 |k,c,sig,[a],x=>bj (fun _=>.one .cC) k (Na c sig.hd a x)
 |k,c,sig,a::b::as,x=>bj (Nl (k+1) (c+(gO sig.hd (Ty.jT a.2 x.1)).length) sig.tl (b::as) x.2) k (Na c sig.hd a x.1)
theorem UO {α β:Type}:∀(s:List (Option Mode)) (l:List α) (a:List β),l.length=a.length->(gO s l).length=(gO s a).length
 |some m::fs,x::xs,y::ys,h=>by simp only[gO,zab,UO fs xs ys (by simpa using h)]
 |none::fs,x::xs,y::ys,h=>by simp only[gO];exact UO fs xs ys (by simpa using h)
 |[],l,a,h=>by cases l<;>cases a<;>rfl
 |some m::fs,[],[],h=>rfl
 |none::fs,[],[],h=>rfl
 |_::_,[],_::_,h=>by simp at h
 |_::_,_::_,[],h=>by simp at h
theorem anV (ts:List Ty) (x:Ty.DL ts):(Ty.jT ts x).length=(Ty.bu ts x).length:=by rw[<-Ty.tW,eM,zad]
theorem aeT (k c:Nat) (sig:cX) (d:Dv) (ds:List Dv):rv k c sig (d::ds)=bj (rv (k+1) (c+(gO sig.hd d.2).length) sig.tl ds) k (uQ c sig.hd d):=by cases sig with|nil=>have:(gO (cX.hd []) d.2).length=0:=rfl;rw[this];simp only[rv,zbA,cX.tl,cX.hd]|cons s sig=>rfl
theorem ak4:∀(k c:Nat) (sig:cX) (as:aR) (x:bt as.br),vW (Nl k c sig as x)=rv k c sig (eZ as x)
 |k,c,sig,[],x=>by cases sig<;>rfl
 |k,c,sig,[a],x=>by simp only[Nl,eZ,CK];have h:=ajf c sig.hd a x;rw[aeT];have e:rv (k+1) (c+(gO sig.hd (Ty.bu a.2 x)).length) sig.tl []=CJ:=(by simp only[rv]);rw[e];exact congrArg (fun v=>bj (vW fun _=>SV.one SC.cC) k v) h
 |k,c,sig,a::b::as,x=>by have d:=ak4 (k+1) (c+(gO sig.hd (Ty.jT a.2 x.1)).length) sig.tl (b::as) x.2;simp only[Nl,eZ,CK,ajf,d,aeT (ds:=eZ (b::as) x.2)];rw[UO sig.hd (Ty.jT a.2 x.1) (Ty.bu a.2 x.1) (anV _ _)]
def zY (sig:cX) (as:aR) (x:bt as.br):List (Mode×TD):=fq sig ((mF as x).map (·.2))
theorem JL (sig:cX) (as:aR) (x:bt as.br):(zY sig as x).map (fun p=>(p.1,p.2.1.er p.2.2))=fq sig ((eZ as x).map (·.2)):=by unfold zY;rw[<-AE,<-H4 (fun p:TD=>p.1.er p.2)];simp only[List.map_map];rfl
def Zo:Mode×TD->Option SB
 |(m,⟨.list ts,xs⟩)=>some (.row false m ts xs)
 |_=>none
theorem aAL (p:Mode×TD):(Zo p).map SB.er=pt (p.1,p.2.1.er p.2.2):=by obtain⟨m,t,x⟩:=p;cases t<;>rfl
def J6:List (Mode×TD)->Nat->Option SB
 |[],_=>none
 |p::_,0=>Zo p
 |_::l,n+1=>J6 l n
theorem alC:∀(l:List (Mode×TD)) (n:Nat),J6 l n=(l[n]?).bind Zo
 |[],n=>by simp[J6]
 |p::l,0=>by simp[J6]
 |p::l,n+1=>by simp[J6,alC l n]
def ak2 (fl:List (Mode×TD)):Nat->Option SB:=fun n=>match zbj aY n with
 |true=>J6 fl (Nat.sub n aY)
 |false=>none
def Nn (sig:cX) (as:aR) (x:bt as.br):aq:={env:=Nl 0 0 sig as x,h:=ak2 (zY sig as x),used:=fun n=>zbj aY n}
theorem Y2 (sig:cX) (as:aR) (x:bt as.br):(Nn sig as x).er=se sig (eZ as x):=by simp only[Nn,aq.er,se,ak4];congr 1;funext n;simp only[e8,ak2];cases hb:zbj aY n with|true=>rw[aj (za8 hb),<-JL,alC];simp only[zaK];(cases (zY sig as x)[n - aY]? with|none=>simp|some p=>simp[aAL])|false=>rw[ak (fun h=>by rw[zaN h] at hb;cases hb)];rfl
def aq.nT (σ:aq):aq:={σ with h:=fun n=>match zbj aY n with|true=>none|false=>σ.h n}
theorem aq.axv (σ:aq):σ.nT.er=σ.er.nT:=by simp only[aq.nT,aq.er,St.nT];congr 1;funext n;simp only[e8];cases hb:zbj aY n with|true=>rw[aj (za8 hb)];rfl|false=>rw[ak (fun h=>by rw[zaN h] at hb;cases hb)]
section
variable {ρ:Type}
def Zb (σ:aq) (q:Nat) (p:Mode×TD) (k:TD->Option ρ):Option ρ:=
 match p with
 |(m,⟨.list ts,xs⟩)=>match σ.h (aY+q) with
  |some (.row _ m' us ys)=>iC (Mode.beq m' m) (iC (Ty.xu us ts) (iC (ZN m us) ((kq (ab ys) (ab (α:=Ty.DL ts) xs)).ae fun _=>k ⟨.list us,ys⟩)))
  |_=>none
 |_=>none
theorem ae3 (t:Ty) (x:t.D):(t.er x).wy= !t.gU:=by cases t<;>rfl
theorem ae2:∀(ts:List Ty) (x:Ty.DL ts),(Ty.bu ts x).map C.wy=ts.map fun t=> !t.gU
 |[],_=>rfl
 |[t],x=>congrArg (fun b=>[b]) (ae3 t x)
 |t::u::ts,x=>by have:=ae2 (u::ts) x.2;simp only[If] at this;simp only[Ty.bu,If,ae3,this]
theorem ae4 (ts:List Ty) (xs:List (Ty.DL ts)):(zbf (Ty.bu ts) xs).map (fun e=>e.map C.wy)=zbi xs.length (ts.map fun t=> !t.gU):=by induction xs with|nil=>rfl|cons x xs a=>simp only[If,ae2,a,zab,zbk]
theorem aAC {σ:aq} {q:Nat} {p:Mode×TD} {k:TD->Option ρ} {r:ρ} (h:Zb σ q p k=some r):∃o:TD,FX σ.er q (p.1,p.2.1.er p.2.2)=some (o.1.er o.2)/\k o=some r:=by unfold Zb at h;split at h;rename_i m ts xs;split at h;rename_i j i us ys hn;have a:=(d9 h).1;replace h:=(d9 h).2;have c:=(d9 h).1;replace h:=(d9 h).2;have s:=(d9 h).1;replace h:=(d9 h).2;rw[gw] at h;obtain⟨_,b,h⟩:=h;have hl:ab ys=ab (α:=Ty.DL ts) xs:=(by unfold kq at b;split at b;assumption;cases b);have a:=Mode.beq_eq a;have c:=Ty.xv c;subst a c;refine⟨_,?_,h⟩;have l:σ.er.h (aY+q)=some (.row j i us.length (zbf (Ty.bu us) ys)):=(by simp[aq.er,e8,hn,SB.er]);have d:zbI ys=zbI (α:=Ty.DL us) xs:=hl;have f:(zbf (Ty.bu us) ys).length=(zbf (α:=Ty.DL us) (Ty.bu us) xs).length:=(zad _).trans (d.trans (zad (as:=(xs:List (Ty.DL us))) (Ty.bu us)).symm);have g:(zbf (Ty.bu us) ys).map (fun e=>e.map C.wy)=(zbf (α:=Ty.DL us) (Ty.bu us) xs).map (fun e=>e.map C.wy):= (ae4 us ys).trans ((congrArg (fun n=>zbi n _) d).trans (ae4 us xs).symm);simp only[FX,Ty.er,l];rw[aj ⟨trivial,trivial,f,acv _ _ _ s,g⟩];cases h;cases h
def RJ (σ:aq):Nat->List (Mode×TD)->(List TD->Option ρ)->Option ρ
 |_,[],k=>k []
 |q,p::l,k=>Zb σ q p fun o=>RJ σ (q+1) l fun os=>k (o::os)
theorem alm {σ:aq}:∀{l:List (Mode×TD)} {q:Nat} {k:List TD->Option ρ} {r:ρ},RJ σ q l k=some r->∃os,zP σ.er q (l.map fun p=>(p.1,p.2.1.er p.2.2))=some (eM os)/\k os=some r
 |[],q,k,r,h=>⟨[],rfl,h⟩
 |p::l,q,k,r,h=>by simp only[RJ] at h;obtain⟨o,c,a⟩:=aAC h;obtain⟨os,b,d⟩:=alm a;exact⟨o::os,by simp only[If,zP,c,b,eM],d⟩
end
def J4 (σ:aq) (ms:List bU) (fl:List (Mode×TD)) (kk:Nat) (aJ:aR):Option (bt aJ.br):=
 B0 σ.nT ms fun vs=>Nu σ.nT.h vs fun ds ns=>iC (MI ns) (eu ds.length kk (RJ σ 0 fl fun os=>tu aJ (ds++os.map fun o=>(.one,[o]))))
theorem RQ {σ:aq} {b:List bU} {fl:List (Mode×TD)} {e:Nat} {aJ:aR} {y:bt aJ.br} (h:J4 σ b fl e aJ=some y): σ.er.zU b (fl.map fun p=>(p.1,p.2.1.er p.2.2))=some (z8 e (eZ aJ y)):=by unfold J4 at h;obtain⟨vs,g,k⟩:=J3 h;obtain⟨ds,ns,l,a⟩:=Zm k;have m:=(d9 a).1;replace a:=(d9 a).2;have j:=(bW a).1;replace a:=(bW a).2;obtain⟨os,c,d⟩:=alm a;have f:wN σ.nT.er.h (vs.map SV.er)=some (ds.map dB.er,ns):=l;have hr:σ.er.nT.zS b=some (ds.map dB.er):=(by rw[<-aq.axv];simp only[St.zS,g,f,aj (XS m)]);simp only[St.zU,hr,c,<-yg d,JZ,<-j];congr 2;rw[zbQ];rw[zbR];congr 1;clear c d;induction os with|nil=>rfl|cons o os i=>rw[If,List.flatMap_cons,<-i];rfl
def zW (N:Nat) (T:List aF) (sc:bV) (ms:List bU) (args:aR) (mu:cX) (aJ:aR) (x:bt args.br):Option (bt aJ.br):=
 pu N T sc (Nn mu args x) (fun σ=>J4 σ ms (zY mu args x) (aJ.length - mu.dH) aJ) (fun _ _=>none) (fun σ=>J4 σ ms (zY mu args x) (aJ.length - mu.dH) aJ)
theorem azN {T:List aF} {b:bV} {c:List bU} {args:aR} {mu:cX} {aJ:aR} {x:bt args.br} {y:bt aJ.br} (h:zW aN T b c args mu aJ x=some y): QV (eE T) b.er c mu (eZ args x)=some (z8 (aJ.length - mu.dH) (eZ aJ y)):=by obtain⟨o,e,a⟩:=vA b h;rw[Y2] at e;unfold QV;rw[e];cases o with|iH τ=>obtain⟨d,rfl,a⟩:=a;simp only[<-JL];exact RQ a|ret τ=>obtain⟨d,rfl,a⟩:=a;simp only[<-JL];exact RQ a|ext i τ=>obtain⟨d,rfl,a⟩:=a;cases a
def M5 (N:Nat) (T:List aF) (sc:bV) (ms:List bU) (i:Nat) (args aJ:aR) (lo hi:Int) (x:bt args.br):Option (bt aJ.br):=
 match zY (oL i) args x with
 |[(_,⟨.list ts,xs⟩)]=>(jB lo hi (ab (α:=Ty.DL ts) xs)).ae fun p=>
  pu N T sc ((Nn (oL i) args x).put (some i) (.one (.sl aY 1 p.1 p.2))) (fun σ=>J4 σ ms (zY (oL i) args x) (aJ.length - 1) aJ) (fun _ _=>none) (fun σ=>J4 σ ms (zY (oL i) args x) (aJ.length - 1) aJ)
 |_=>none
theorem azR {T:List aF} {d:bV} {f:List bU} {i:Nat} {args aJ:aR} {lo len:Nat} {x:bt args.br} {y:bt aJ.br} (h:M5 aN T d f i args aJ (lo:Int) ((lo+len:Nat):Int) x=some y): QZ (eE T) d.er f i lo len (eZ args x)=some (z8 (aJ.length - 1) (eZ aJ y)):=by unfold M5 at h;split at h;rw[gw] at h;obtain⟨p,b,h⟩:=h;have j:p=(lo,len):=(by unfold jB at b;split at b;injection b with b;rw[<-b];congr 1;omega;cases b);subst j;obtain⟨o,c,a⟩:=vA d h;rw[aq.gZ,Y2] at c;unfold QZ St.win;have e:(SV.one (.sl aY 1 lo len)).er=aE.one (.sl aY 1 lo len):=rfl;rw[e] at c;rw[c];(cases o with|iH τ=>obtain⟨g,rfl,a⟩:=a;simp only[<-JL];exact RQ a|ret τ=>obtain⟨g,rfl,a⟩:=a;simp only[<-JL];exact RQ a|ext i τ=>obtain⟨g,rfl,a⟩:=a;cases a);cases h
def M8 (k:K) (ts:List Ty) (x:Ty.DL ts):SV:=
 match k with
 |.one=>match Ty.cells ts x with
  |[c]=>.one c
  |_=>.one .cC
 |.agg=>.agg (Ty.cells ts x)
 |.ptr=>.one (.ptr aY 0 0 0)
theorem aje (k:K) (ts:List Ty) (x:Ty.DL ts):(M8 k ts x).er=KI (k,Ty.bu ts x):=by
 cases k with
 |one=>
  match ts,x with
  |[],x=>rfl
  |[t],x=>rfl
  |t::u::[],x=>rfl
  |t::u::v::ts,x=>rfl
 |agg=>simp only[M8,SV.er,KI,Ty.pH]
 |ptr=>rfl
def Nm:Nat->(as:aR)->bt as.br->(Nat->SV)
 |_,[],_=>fun _=>.one .cC
 |k,[a],x=>bj (fun _=>.one .cC) k (M8 a.1 a.2 x)
 |k,a::b::as,x=>bj (Nm (k+1) (b::as) x.2) k (M8 a.1 a.2 x.1)
theorem ak5:∀(k:Nat) (as:aR) (x:bt as.br),vW (Nm k as x)=zy k (eZ as x)
 |k,[],x=>rfl
 |k,[a],x=>by have e:(M8 a.1 a.2 x).er=KI (a.1,Ty.bu a.2 x):=aje a.1 a.2 x;simp only[Nm,eZ,zy,CK];rw[e];rfl
 |k,a::b::as,x=>by have c:=ak5 (k+1) (b::as) x.2;simp only[Nm,eZ,CK,aje,c];rw[zy]
def wW:(as:aR)->bt as.br->Option (List TD)
 |[],_=>none
 |[a],x=>match a.1.zA with
  |true=>some (Ty.jT a.2 x)
  |false=>none
 |a::b::as,x=>match a.1.zA with
  |true=>some (Ty.jT a.2 x.1)
  |false=>wW (b::as) x.2
theorem aiK (k:K) (xs:List C) (ds:List Dv):ux ((k,xs)::ds)=match k.zA with|true=>some xs|false=>ux ds:=by cases k<;>rfl
theorem ad6 (k:K) (ts:List Ty) (as:aR):Il ((k,ts)::as)=match k.zA with|true=>true|false=>Il as:=by cases k<;>rfl
theorem Zd:∀(as:aR) (x:bt as.br),(wW as x).map eM=ux (eZ as x)
 |[],_=>rfl
 |[(k,ts)],x=>by simp only[wW,eZ,aiK];cases k.zA with|true=>exact congrArg some (Ty.tW ts x)|false=>rfl
 |(k,ts)::b::as,x=>by simp only[wW,eZ,aiK];cases k.zA with|true=>simp only[zax];rw[Ty.tW]|false=>exact Zd (b::as) x.2
theorem als:∀(as:aR) (x:bt as.br),(wW as x).isSome=Il as
 |[],_=>rfl
 |[(k,ts)],x=>by simp only[wW,ad6];cases k.zA<;>rfl
 |(k,ts)::b::as,x=>by simp only[wW];rw[ad6];cases k.zA with|true=>rfl|false=>exact als (b::as) x.2
def ak7 (as:aR) (x:bt as.br):Nat->Option SB:=fun n=>match Nat.beq n aY with
 |true=>match wW as x with
  |some l=>some (.box (l.map fun y=>.v y.1 y.2))
  |none=>none
 |false=>none
def Y3 (as:aR) (x:bt as.br):aq:={env:=Nm 0 as x,h:=ak7 as x,used:=fun n=>zbj aY n}
theorem aAr (as:aR) (x:bt as.br):(Y3 as x).er=Mg (eZ as x):=by simp only[Y3,aq.er,Mg,ak5];congr 1;funext n;simp only[e8,ak7,uh];cases Nat.beq n aY with|false=>rfl|true=>simp only;rw[<-Zd];cases wW as x with|none=>rfl|some l=>simp only[zax,SB.er,ZV]
section
variable {ρ:Type}
def RN (h:Nat->Option SB):List SV->(List dB->Option ρ)->Option ρ
 |[],k=>k []
 |v::vs,k=>match v.cells? with
  |some (ag,cs)=>Gq h cs fun l=>RN h vs fun ds=>k ((P9 ag,l)::ds)
  |none=>none
theorem alx {h:Nat->Option SB}:∀{vs:List SV} {k:List dB->Option ρ} {r:ρ},RN h vs k=some r->∃ds,wM (e8 h) (vs.map SV.er)=some (ds.map dB.er)/\k ds=some r
 |[],k,r,hx=>⟨[],rfl,hx⟩
 |v::vs,k,r,hx=>by simp only[RN] at hx;split at hx;rename_i ag cs d;obtain⟨l,c,a⟩:=Ny hx;obtain⟨ds,b,e⟩:=alx a;refine⟨_,?_,e⟩;simp only[If,wM,SV.pH d,c,b,dB.er];cases ag<;>rfl;cases hx
def alr:List SV->Option (Nat×Nat×Nat)
 |[v]=>v.vu
 |_=>none
def Zn (h:Nat->Option SB) (vs:List SV) (k:List dB->Option ρ):Option ρ:=
 match alr vs with
 |some (n,kk,off)=>match Q4 h n kk off with
  |some l=>match zbj aY n with
   |true=>none
   |false=>k [(.ptr,l)]
  |none=>none
 |none=>RN h vs k
theorem aAK {h:Nat->Option SB} {vs:List SV} {k:List dB->Option ρ} {r:ρ} (hx:Zn h vs k=some r):∃ds,JF (e8 h) (vs.map SV.er)=some (ds.map dB.er)/\k ds=some r:=by
 unfold Zn at hx;split at hx
 ·rename_i n o off a;have c:∃sz,vs=[.one (.ptr n o sz off)]:=by
   unfold alr at a;split at a
   ·obtain⟨sz,rfl⟩:=aiJ a;exact⟨sz,rfl⟩
   ·cases a
  obtain⟨sz,rfl⟩:=c;split at hx
  ·rename_i l hl;split at hx
   ·cases hx
   ·rename_i f;refine⟨_,?_,hx⟩;have e:=ajh (sz:=sz) hl;have hn:¬aY<=n:=fun g=>by rw[zaN g] at f;cases f
    simp only[If,zbB,JF,e];rw[ak hn];rfl
  ·cases hx
 ·rename_i a;obtain⟨ds,d,j⟩:=alx hx;refine⟨ds,?_,j⟩;unfold JF;split
  ·rename_i m b;have c:∃v,vs=[v]/\m=v.er:=by
    match vs,b with
    |[v],b=>simp at b;exact⟨v,rfl,b.symm⟩
   obtain⟨v,rfl,rfl⟩:=c;have i:v.vu=none:=a;rw[aiI i];exact d
  ·exact d
def Zc (h:Nat->Option SB) (cur:Option (List TD)) (k:List dB->Option ρ):Option ρ:=
 match cur with
 |none=>k []
 |some xs=>match h aY with
  |some (.box cs)=>eu cs.length xs.length (match D9 cs with
   |some l=>k [(.ptr,l)]
   |none=>none)
  |_=>none
theorem aAD {h:Nat->Option SB} {cur:Option (List TD)} {k:List dB->Option ρ} {r:ρ} (hx:Zc h cur k=some r): ∃os:List dB,Jm (e8 h) (cur.map eM)=some (eM (os.flatMap (·.2)))/\os.length=(match cur.isSome with|true=>1|false=>0)/\k os=some r:=by unfold Zc at hx;split at hx;exact⟨[],rfl,rfl,hx⟩;rename_i xs;split at hx;rename_i cs hn;have a:=(bW hx).1;replace hx:=(bW hx).2;split at hx;rename_i l hl;refine⟨[(.ptr,l)],?_,rfl,hx⟩;simp only[zax,Jm,e8,hn,SB.er,zad];rw[aj (by rw[a,eM,zad]),Nj hl];simp;cases hx;cases hx
end
def RR (σ:aq) (ms:List bU) (cur:Option (List TD)) (aJ:aR):Option (bt aJ.br):=
 B0 σ ms fun vs=>Zn σ.h vs fun ds=>Zc σ.h cur fun os=>tu aJ (ds++os)
theorem alA {σ:aq} {a:List bU} {args:aR} {x:bt args.br} {aJ:aR} {y:bt aJ.br} (h:RR σ a (wW args x) aJ=some y): σ.er.JE a (eZ args x)=some (z8 (aJ.length - vr args) (eZ aJ y)):=by unfold RR at h;obtain⟨vs,d,k⟩:=J3 h;obtain⟨ds,l,e⟩:=aAK k;obtain⟨os,m,i,f⟩:=aAD e;have b:=yg f;have hlen:aJ.length=ds.length+os.length:=(by have:=congrArg zbI b;rw[EU,zad,zae] at this;exact this.symm);have xO:vr args=os.length:=(by rw[i,als];unfold vr;cases Il args<;>rfl);have j:aJ.length - vr args=ds.length:=(by omega);have c:JF σ.er.h (vs.map SV.er)=some (ds.map dB.er):=l;have g:Jm σ.er.h (ux (eZ args x))=some (eM (os.flatMap (·.2))):=(by rw[<-Zd];exact m);simp only[St.JE,d,c,g,j];rw[<-b,JZ,zbQ,zbR]
def F9 (N:Nat) (T:List aF) (sc:bV) (ms:List bU) (args aJ:aR) (x:bt args.br):Option (bt aJ.br):=
 pu N T sc (Y3 args x) (fun σ=>RR σ ms (wW args x) aJ) (fun _ _=>none) (fun σ=>RR σ ms (wW args x) aJ)
theorem azP {T:List aF} {b:bV} {c:List bU} {args aJ:aR} {x:bt args.br} {y:bt aJ.br} (h:F9 aN T b c args aJ x=some y): QW (eE T) b.er c (eZ args x)=some (z8 (aJ.length - vr args) (eZ aJ y)):=by obtain⟨o,e,a⟩:=vA b h;rw[aAr] at e;unfold QW;rw[e];cases o with|iH τ=>obtain⟨d,rfl,a⟩:=a;exact alA a|ret τ=>obtain⟨d,rfl,a⟩:=a;exact alA a|ext i τ=>obtain⟨d,rfl,a⟩:=a;cases a
def Eh:aR:=[(.one,[.int .i64]),(.one,[.int .i64])]
def RS (σ:aq) (ms:List bU):Option (bt (aR.br Eh)):=
 B0 σ ms fun vs=>match vs with
  |[.one (.sl n sz lo len)]=>eu n aY (match σ.h aY with
   |some (.row _ _ ts xs)=>eu sz ts.length ((cN (0:Int) (ab xs)).ae fun _=>some (aD lo,aD (av lo len)))
   |_=>none)
  |_=>none
theorem alB {σ:aq} {b:List bU} {y:bt (aR.br Eh)} (h:RS σ b=some y):∃lo len,σ.er.JG b=some (lo,len)/\ZY (eZ Eh y)=some (lo,len):=by unfold RS at h;obtain⟨vs,d,a⟩:=J3 h;split at a;rename_i n sz lo len;have i:=(bW a).1;replace a:=(bW a).2;split at a;rename_i g f ts xs l;have m:=(bW a).1;replace a:=(bW a).2;rw[gw] at a;obtain⟨k,c,a⟩:=a;injection a with a;refine⟨lo,len,?_,?_⟩;have j:σ.er.h aY=some (.row g f ts.length (zbf (Ty.bu ts) xs)):=(by simp only[aq.er,e8,l,SB.er,zax]);unfold St.JG;rw[d];simp only[If,zbB,SV.er,SC.er];rw[aj i,j];(cases xs with|nil=>unfold cN ab at c;simp at c|cons e es=>simp only[If];rw[aj m]);subst a;show some (((lo:Nat):Int).toNat,(((lo+len:Nat):Int) - ((lo:Nat):Int)).toNat)=some (lo,len);congr 2;omega;cases a;cases a
def QY (N:Nat) (T:List aF) (sc:bV) (ms:List bU) (args:aR) (mu:cX) (x:bt args.br):Option (bt (aR.br Eh)):=
 match zY mu args x with
 |[_]=>pu N T sc (Nn mu args x) (fun σ=>RS σ ms) (fun _ _=>none) (fun σ=>RS σ ms)
 |_=>none
theorem azQ {T:List aF} {b:bV} {c:List bU} {args:aR} {mu:cX} {x:bt args.br} {y:bt (aR.br Eh)} (h:QY aN T b c args mu x=some y): ∃lo len,QX (eE T) b.er c mu (eZ args x)=some (lo,len)/\ZY (eZ Eh y)=some (lo,len):=by unfold QY at h;split at h;rename_i p f;obtain⟨o,e,a⟩:=vA b h;rw[Y2] at e;unfold QX;rw[<-JL,f];simp only[If,zbB];rw[e];(cases o with|iH τ=>obtain⟨d,rfl,a⟩:=a;exact alB a|ret τ=>obtain⟨d,rfl,a⟩:=a;exact alB a|ext i τ=>obtain⟨d,rfl,a⟩:=a;cases a);cases h
def aaA (P:Program) (fn:aF):Prop:=(fn.mu.iq=0->dz P fn.id fn.M)/\(fn.mu.iq=1->uM P fn.id fn.mu fn.MM)/\(fn.mu.iq=2->yL P fn.id fn.MV)/\(fn.mu.iq=3->Hj P fn.id fn.mu.tl fn.MW)/\(fn.mu.iq=4->EB P fn.id fn.mu.nW fn.MX)/\(fn.mu.iq=5->Kx P fn.id fn.M)/\cg P fn.id=true
def aA (P:Program) (T:List aF):Prop:=∀fn∈T,aaA P fn
theorem aA.nil {P:Program}:aA P []:=fun _ h=>by cases h
theorem aA.HL {P:Program} {fn:aF} {T:List aF} (h:aaA P fn) (b:aA P T):aA P (fn::T):=by intro g a;cases a with|head=>exact h|tail _ a=>exact b g a
theorem aA.cons {P:Program} {f:FuncId} {args aJ:aR} {F:bt args.br->Option (bt aJ.br)} {T:List aF} (h:dz P f (aF.M ⟨f,args,[],aJ,F⟩)/\cg P f=true) (a:aA P T):aA P (⟨f,args,[],aJ,F⟩::T):= aA.HL ⟨fun _=>h.1,fun hm=>(by cases hm),fun hm=>(by cases hm),fun hm=>(by cases hm),fun hm=>(by cases hm),fun hm=>(by cases hm),h.2⟩ a
theorem aA.vS {P:Program} {f:FuncId} {args:aR} {s:List (Option Mode)} {mu:cX} {aJ:aR} {F:bt args.br->Option (bt aJ.br)} {T:List aF} (h:uM P f (s::mu) (aF.MM ⟨f,args,s::mu,aJ,F⟩)/\cg P f=true) (b:aA P T) (a:cX.iq (s::mu)=1:=by rfl):aA P (⟨f,args,s::mu,aJ,F⟩::T):= aA.HL ⟨fun hm=>absurd (a.symm.trans hm) (by decide),fun _=>h.1,fun hm=>absurd (a.symm.trans hm) (by decide),fun hm=>absurd (a.symm.trans hm) (by decide),fun hm=>absurd (a.symm.trans hm) (by decide),fun hm=>absurd (a.symm.trans hm) (by decide),h.2⟩ b
theorem aA.HM {P:Program} {f:FuncId} {args:aR} {aJ:aR} {F:bt args.br->Option (bt aJ.br)} {T:List aF} (h:yL P f (aF.MV ⟨f,args,[[some .bn]],aJ,F⟩)/\cg P f=true) (a:aA P T):aA P (⟨f,args,[[some .bn]],aJ,F⟩::T):= aA.HL ⟨fun hm=>(by cases hm),fun hm=>(by cases hm),fun _=>h.1,fun hm=>(by cases hm),fun hm=>(by cases hm),fun hm=>(by cases hm),h.2⟩ a
theorem aA.anO {P:Program} {f:FuncId} {args:aR} {mu:cX} {aJ:aR} {F:bt args.br->Option (bt aJ.br)} {T:List aF} (h:Hj P f mu (aF.MW ⟨f,args,[some .bn,some .bn]::mu,aJ,F⟩)/\cg P f=true) (a:aA P T):aA P (⟨f,args,[some .bn,some .bn]::mu,aJ,F⟩::T):= aA.HL ⟨fun hm=>(by cases hm),fun hm=>(by cases hm),fun hm=>(by cases hm),fun _=>h.1,fun hm=>(by cases hm),fun hm=>(by cases hm),h.2⟩ a
theorem aA.HN {P:Program} {f:FuncId} {args:aR} {mu:cX} {aJ:aR} {F:bt args.br->Option (bt aJ.br)} {T:List aF} (h:EB P f (cX.nW ([some .bn,some .bn,some .bn]::mu)) (aF.MX ⟨f,args,[some .bn,some .bn,some .bn]::mu,aJ,F⟩)/\cg P f=true) (a:aA P T):aA P (⟨f,args,[some .bn,some .bn,some .bn]::mu,aJ,F⟩::T):= aA.HL ⟨fun hm=>(by cases hm),fun hm=>(by cases hm),fun hm=>(by cases hm),fun hm=>(by cases hm),fun _=>h.1,fun hm=>(by cases hm),h.2⟩ a
theorem aA.mD {P:Program} {f:FuncId} {args:aR} {mu:cX} {aJ:aR} {F:bt args.br->Option (bt aJ.br)} {T:List aF} (h:Kx P f (aF.M ⟨f,args,[some .bn,some .bn,some .bn,some .bn]::mu,aJ,F⟩)/\cg P f=true) (a:aA P T):aA P (⟨f,args,[some .bn,some .bn,some .bn,some .bn]::mu,aJ,F⟩::T):= aA.HL ⟨fun hm=>(by cases hm),fun hm=>(by cases hm),fun hm=>(by cases hm),fun hm=>(by cases hm),fun hm=>(by cases hm),fun _=>h.1,h.2⟩ a
theorem ZF:∀{T:List aF} {f:FuncId} {M:List Dv->Option (List Dv)},bL.find (eE T).ns f=some M->∃fn∈T,fn.id=f/\M=fn.M/\fn.mu.iq=5
 |[],f,M,h=>by simp[eE,bL.find] at h
 |g::l,f,M,h=>by simp only[eE,zah] at h;by_cases a:g.mu.iq=5;simp only[a,bL.find] at h;split at h;rename_i e;injection h with h;exact⟨g,by simp,e.symm,h.symm,a⟩;obtain⟨fn,d,b,c⟩:=ZF (T:=l) h;exact⟨fn,by simp[d],b,c⟩;split at h;obtain⟨fn,d,b,c⟩:=ZF (T:=l) h;exact⟨fn,by simp[d],b,c⟩;rename_i z i;split at i;rename_i j;exact absurd j a;cases i
theorem R1:∀{T:List aF} {f:FuncId} {M:List Dv->Option (List Dv)},bL.find (eE T).pure f=some M->∃fn∈T,fn.id=f/\M=fn.M/\fn.mu.iq=0
 |[],f,M,h=>by simp[eE,bL.find] at h
 |g::l,f,M,h=>by simp only[eE,zah] at h;by_cases a:g.mu.iq=0;simp only[a,bL.find] at h;split at h;rename_i e;injection h with h;exact⟨g,by simp,e.symm,h.symm,a⟩;obtain⟨fn,d,b,c⟩:=R1 (T:=l) h;exact⟨fn,by simp[d],b,c⟩;split at h;obtain⟨fn,d,b,c⟩:=R1 (T:=l) h;exact⟨fn,by simp[d],b,c⟩;rename_i z i;split at i;rename_i j;exact absurd j a;cases i
theorem ZE:∀{T:List aF} {f:FuncId} {sig:cX} {M:List Dv->Option (List Dv×List C)},bL.tZ (eE T).DG f=some (sig,M)->∃fn∈T,fn.id=f/\sig=fn.mu/\M=fn.MM/\fn.mu.iq=1
 |[],f,sig,M,h=>by simp[eE,bL.tZ] at h
 |g::l,f,sig,M,h=>by simp only[eE,zah] at h;by_cases a:g.mu.iq=1;simp only[a,bL.tZ] at h;split at h;rename_i e;injection h with h;injection h with j hb;exact⟨g,by simp,e.symm,j.symm,hb.symm,a⟩;obtain⟨fn,d,b,c⟩:=ZE (T:=l) h;exact⟨fn,by simp[d],b,c⟩;split at h;obtain⟨fn,d,b,c⟩:=ZE (T:=l) h;exact⟨fn,by simp[d],b,c⟩;rename_i z i;split at i;rename_i k;exact absurd k a;cases i
theorem ZG:∀{T:List aF} {f:FuncId} {M:List Dv->Option (List Dv×List C)},bL.rR (eE T).vs f=some M->∃fn∈T,fn.id=f/\M=fn.MV/\fn.mu.iq=2
 |[],f,M,h=>by simp[eE,bL.rR] at h
 |g::l,f,M,h=>by simp only[eE,zah] at h;by_cases a:g.mu.iq=2;simp only[a,bL.rR] at h;split at h;rename_i e;injection h with h;exact⟨g,by simp,e.symm,h.symm,a⟩;obtain⟨fn,d,b,c⟩:=ZG (T:=l) h;exact⟨fn,by simp[d],b,c⟩;split at h;obtain⟨fn,d,b,c⟩:=ZG (T:=l) h;exact⟨fn,by simp[d],b,c⟩;rename_i z i;split at i;rename_i j;exact absurd j a;cases i
theorem ZH:∀{T:List aF} {f:FuncId} {sig:cX} {M:List Dv->Option (Nat×Nat)},bL.xC (eE T).ws f=some (sig,M)->∃fn∈T,fn.id=f/\sig=fn.mu.tl/\M=fn.MW/\fn.mu.iq=3
 |[],f,sig,M,h=>by simp[eE,bL.xC] at h
 |g::l,f,sig,M,h=>by simp only[eE,zah] at h;by_cases a:g.mu.iq=3;simp only[a,bL.xC] at h;split at h;rename_i e;injection h with h;injection h with j hb;exact⟨g,by simp,e.symm,j.symm,hb.symm,a⟩;obtain⟨fn,d,b,c⟩:=ZH (T:=l) h;exact⟨fn,by simp[d],b,c⟩;split at h;obtain⟨fn,d,b,c⟩:=ZH (T:=l) h;exact⟨fn,by simp[d],b,c⟩;rename_i z i;split at i;rename_i k;exact absurd k a;cases i
theorem ZI:∀{T:List aF} {f:FuncId} {sig:Nat} {M:List Dv->Option (List Dv×List C)},bL.xD (eE T).xs f=some (sig,M)->∃fn∈T,fn.id=f/\sig=fn.mu.nW/\M=fn.MX/\fn.mu.iq=4
 |[],f,sig,M,h=>by simp[eE,bL.xD] at h
 |g::l,f,sig,M,h=>by simp only[eE,zah] at h;by_cases a:g.mu.iq=4;simp only[a,bL.xD] at h;split at h;rename_i e;injection h with h;injection h with j hb;exact⟨g,by simp,e.symm,j.symm,hb.symm,a⟩;obtain⟨fn,d,b,c⟩:=ZI (T:=l) h;exact⟨fn,by simp[d],b,c⟩;split at h;obtain⟨fn,d,b,c⟩:=ZI (T:=l) h;exact⟨fn,by simp[d],b,c⟩;rename_i z i;split at i;rename_i k;exact absurd k a;cases i
theorem aA.tok {P:Program} {T:List aF} (h:aA P T):sM P (eE T):=by refine⟨fun g M c=>?_,fun g sig M c=>?_,fun g M c=>?_,⟨fun g sig M c=>?_,fun g sig M c=>?_⟩,fun g M c=>?_,fun g M c=>?_⟩;obtain⟨a,d,b,e,f⟩:=R1 c;subst b e;exact(h a d).1 f;obtain⟨a,d,b,e,f,i⟩:=ZE c;subst b e f;exact(h a d).2.1 i;obtain⟨a,d,b,e,f⟩:=ZG c;subst b e;exact(h a d).2.2.1 f;obtain⟨a,d,b,e,f,i⟩:=ZH c;subst b e f;exact(h a d).2.2.2.1 i;obtain⟨a,d,b,e,f,i⟩:=ZI c;subst b e f;exact(h a d).2.2.2.2.1 i;obtain⟨a,d,b,e,f⟩:=ZF c;subst b e;exact(h a d).2.2.2.2.2.1 f;obtain⟨a,d,b,e,f⟩:=R1 c;subst b;exact(h a d).2.2.2.2.2.2
def cK (P:Program) (f:FuncId) (mc:mX) (ms:List bU) (n:Nat):Bool:=
 match P.funcs[f]? with
 |some fn=>match fn.body with
  |some c=>mC P fn.ntmps c mc&&qY P fn.results.toList ms&&decide (n<=fn.ntmps)&&(fn.name != "runtime.NumGoroutine")
  |none=>false
 |none=>false
theorem KX {P:Program} {f:FuncId} {d:mX} {a:List bU} {n:Nat} (h:cK P f d a n=true):cg P f=true:=by unfold cK at h;unfold cg;split at h;rename_i fn e;split at h;rename_i c b;simp only[AT] at h;simp[e,b,h.2];cases h;cases h
theorem dL {P:Program} {T:List aF} (l:aA P T) (hm:P.follows .mixedOrders=true) {f:FuncId} {d:bV} {b:List bU} {args aJ:aR} (a:cK P f d.er b args.length=true) (F:bt args.br->Option (bt aJ.br)) (h:∀x y,F x=some y->dK aN T d b args aJ x=some y):dz P f (aF.M ⟨f,args,[],aJ,F⟩)/\cg P f=true:=by refine⟨?_,KX a⟩;unfold cK at a;split at a;rename_i fn i;split at a;rename_i c j;simp only[AT,decide_eq_true_eq] at a;refine azg (T:=eE T) l.tok hm i j a.1.1.1 a.1.1.2 fun ds rs e=>?_;obtain⟨x,y,g,k,m⟩:=aF.Kw e;subst g m;exact⟨by rw[EU];exact a.1.2,azO (h x y k)⟩;cases a;cases a
theorem DF {P:Program} {T:List aF} (n:aA P T) (hm:P.follows .mixedOrders=true) {f:FuncId} {e:bV} {d:List bU} {args:aR} {mu:cX} {aJ:aR} (a:cK P f e.er d args.length=true) (F:bt args.br->Option (bt aJ.br)) (h:∀x y,F x=some y->zW aN T e d args mu aJ x=some y):uM P f mu (aF.MM ⟨f,args,mu,aJ,F⟩)/\cg P f=true:=by refine⟨?_,KX a⟩;unfold cK at a;split at a;rename_i fn k;split at a;rename_i c l;simp only[AT,decide_eq_true_eq] at a;refine avK (T:=eE T) n.tok hm k l a.1.1.1 a.1.1.2 fun ds rs fm b=>?_;unfold aF.MM at b;rw[zaH] at b;obtain⟨oH,i,j⟩:=b;obtain⟨x,y,g,m,o⟩:=aF.Kw i;subst g o;refine⟨by rw[EU];exact a.1.2,?_⟩;rw[<-j];exact azN (h x y m);cases a;cases a
abbrev iA:K×List Ty:=(.one,[.int .i64])
theorem aBv {P:Program} {T:List aF} (s:aA P T) (hm:P.follows .mixedOrders=true) {f:FuncId} {j:bV} {i:List bU} {b:K×List Ty} {args:aR} {mu:cX} {aJ:aR} (a:cK P f j.er i (b::args).length=true) (F:bt (aR.br (iA::iA::b::args))->Option (bt aJ.br)) (k:∀x y,F x=some y->M5 aN T j i mu.nW (b::args) aJ x.1 x.2.1 x.2.2=some y):EB P f mu.nW (aF.MX ⟨f,iA::iA::b::args,mu,aJ,F⟩)/\cg P f=true:=by refine⟨?_,KX a⟩;unfold cK at a;split at a;rename_i fn p;split at a;rename_i c q;simp only[AT,decide_eq_true_eq] at a;refine aBu (T:=eE T) s.tok hm p q a.1.1.1 a.1.1.2 fun lo len ds rs fm g=>?_;unfold aF.MX at g;rw[zaH] at g;obtain⟨oH,n,o⟩:=g;obtain⟨x,y,h,r,t⟩:=aF.Kw n;subst t;obtain⟨xa,xb,xs⟩:=x;have h:dI lo::dI (lo+len)::ds=((.one,[.int .i64 xa]):Dv)::((.one,[.int .i64 xb]):Dv)::eZ (b::args) xs:=h;injection h with e d;injection d with d g3;have l:xa=((lo:Nat):Int):=(by unfold dI at e;injection e with _ e;injection e with e _;injection e with _ e;exact e.symm);have m:xb=((lo+len:Nat):Int):=(by unfold dI at d;injection d with _ d;injection d with d _;injection d with _ d;exact d.symm);subst l m g3;refine⟨by rw[EU];exact a.1.2,?_⟩;rw[<-o];exact azR (k _ y r);cases a;cases a
theorem NG {P:Program} {T:List aF} (n:aA P T) (hm:P.follows .mixedOrders=true) {f:FuncId} {e:bV} {d:List bU} {args aJ:aR} (a:cK P f e.er d args.length=true) (F:bt args.br->Option (bt aJ.br)) (h:∀x y,F x=some y->F9 aN T e d args aJ x=some y):yL P f (aF.MV ⟨f,args,[[some .bn]],aJ,F⟩)/\cg P f=true:=by refine⟨?_,KX a⟩;unfold cK at a;split at a;rename_i fn k;split at a;rename_i c l;simp only[AT,decide_eq_true_eq] at a;refine aBf (T:=eE T) n.tok hm k l a.1.1.1 a.1.1.2 fun ds rs out b=>?_;unfold aF.MV at b;rw[zaH] at b;obtain⟨oH,i,j⟩:=b;obtain⟨x,y,g,m,o⟩:=aF.Kw i;subst g o;refine⟨by rw[EU];exact a.1.2,?_⟩;rw[<-j];exact azP (h x y m);cases a;cases a
theorem aBk {P:Program} {T:List aF} (s:aA P T) (hm:P.follows .mixedOrders=true) {f:FuncId} {d:bV} {e:List bU} {args:aR} {mu:cX} (a:cK P f d.er e args.length=true) (i:vx d.er=true) (F:bt args.br->Option (bt (aR.br Eh))) (h:∀x y,F x=some y->QY aN T d e args mu x=some y):Hj P f mu (aF.MW ⟨f,args,[some .bn,some .bn]::mu,Eh,F⟩)/\cg P f=true:=by refine⟨?_,KX a⟩;unfold cK at a;split at a;rename_i fn o;split at a;rename_i c p;simp only[AT,decide_eq_true_eq] at a;refine aBj (T:=eE T) s.tok hm o p a.1.1.1 a.1.1.2 i fun ds lo len b=>?_;unfold aF.MW at b;rw[Option.bind_eq_some_iff] at b;obtain⟨oH,j,n⟩:=b;obtain⟨x,y,g,r,t⟩:=aF.Kw j;subst g t;obtain⟨k,q,m,u⟩:=azQ (h x y r);have:(k,q)=(lo,len):=(by have:=u.symm.trans n;injection this);injection this with l g2;subst l g2;exact⟨by rw[EU];exact a.1.2,m⟩;cases a;cases a
def iv:aR:=[(.one,[.list [.int .i64]]),(.one,[.int .i64])]
def ew:aR:=[(.one,[.int .i64])]
def dN:cX:=[]
def dw:aR:=[(.one,[.list [.int .i64]])]
def iS:aR:=[(.one,[.list [.int .i64]]),(.one,[.list [.int .i64]])]
def dR:aR:=[(.one,[.bool])]
def D7:aR:=[(.one,[.list [.list [.int .i64]]]),(.one,[.int .i64])]
def zZ:aR:=[(.one,[.list [.list [.int .i64]]])]
def Rs:aR:=[(.one,[.list [.list [.int .i64]]]),(.one,[.list [.list [.int .i64]]])]
def sI:aR:=[(.agg,[.list [.int .i64],.list [.int .i64],.list [.int .i64]]),(.one,[.int .i64])]
def jo:aR:=[(.agg,[.list [.int .i64],.list [.int .i64],.list [.int .i64]])]
def pw:aR:=[(.agg,[.list [.int .i64],.list [.int .i64],.list [.int .i64]]),(.agg,[.list [.int .i64],.list [.int .i64],.list [.int .i64]])]
def D3:aR:=[(.agg,[.int .i64,.list [.list [.int .i64]]]),(.one,[.int .i64])]
def yl:aR:=[(.agg,[.int .i64,.list [.list [.int .i64]]])]
def Q9:aR:=[(.agg,[.int .i64,.list [.list [.int .i64]]]),(.agg,[.int .i64,.list [.list [.int .i64]]])]
def Gf:aR:=[(.one,[.int .i64]),(.one,[.list [.int .i64]])]
def Rc:cX:=[[some .bq]]
def JM:aR:=[(.one,[.int .i64]),(.one,[.list [.list [.int .i64]]])]
def Rd:cX:=[[some .live]]
def YX:aR:=[(.one,[.int .i64]),(.one,[.list [.int .i64]]),(.one,[.list [.int .i64]]),(.one,[.list [.int .i64]])]
def Re:cX:=[[some .bq,some .bq,some .bq]]
def Rf:cX:=[[none,some .live]]
def Rh:aR:=[(.one,[.int .i64]),(.one,[.int .i64]),(.one,[.int .i64])]
def wP:aR:=[(.agg,[.list [.int .i64],.list [.int .i64],.list [.int .i64]]),(.agg,[.int .i64,.list [.list [.int .i64]]])]
def YY:aR:=[(.one,[.bool]),(.one,[.list [.int .i64]])]
def wQ:cX:=[[],[some .bq]]
def iD:aR:=[(.agg,[.int .i64,.int .i64,.int .i64])]
def Ri:aR:=[(.agg,[.int .i64,.int .i64,.int .i64]),(.one,[.list [.int .i64]])]
def wR:aR:=[(.agg,[.int .i64,.int .i64,.int .i64]),(.one,[.list [.int .i64]]),(.one,[.list [.int .i64]])]
def wS:aR:=[(.agg,[.int .i64,.int .i64,.int .i64]),(.one,[.list [.int .i64]]),(.one,[.list [.int .i64]]),(.one,[.list [.int .i64]])]
def D4:aR:=[(.agg,[.int .i64,.int .i64,.int .i64]),(.agg,[.list [.int .i64],.list [.int .i64],.list [.int .i64]])]
def wT:aR:=[(.agg,[.int .i64,.list [.list [.int .i64]]]),(.one,[.list [.int .i64]])]
def Rj:aR:=[(.agg,[.int .i64,.int .i64,.int .i64]),(.agg,[.list [.int .i64],.list [.int .i64],.list [.int .i64]]),(.one,[.int .i64]),(.one,[.list [.int .i64]])]
def Rk:cX:=[[],[none,none,some .bq]]
def sG:aR:=[(.agg,[.int .i64,.int .i64,.int .i64]),(.agg,[.list [.int .i64],.list [.int .i64],.list [.int .i64]]),(.agg,[.int .i64,.list [.list [.int .i64]]])]
def JN:aR:=[(.agg,[.list [.int .i64],.list [.int .i64],.list [.int .i64]]),(.one,[.bool])]
def wU:aR:=[(.agg,[.int .i64,.int .i64,.int .i64]),(.agg,[.list [.int .i64],.list [.int .i64],.list [.int .i64]]),(.one,[.int .i64])]
def aAm:aR:=[(.one,[.int .i64]),(.one,[.int .i64])]
def Rl:cX:=[[some .bn,some .bn],[],[none,none,some .bq]]
def Ng:cX:=[[some .bn]]
def Gg:aR:=[(.one,[.list [.list [.int .i64]]]),(.one,[.list [.int .i64]])]
def Rm:aR:=[(.agg,[.int .i64,.int .i64,.int .i64]),(.agg,[.list [.int .i64],.list [.int .i64],.list [.int .i64]]),(.agg,[.int .i64,.list [.list [.int .i64]]]),(.one,[.list [.int .i64]])]
def YZ:aR:=[(.agg,[.list [.int .i64],.list [.int .i64],.list [.int .i64],.list [.int .i64]])]
def JO:aR:=[(.one,[.list [.list [.int .i64],.list [.int .i64],.list [.int .i64],.list [.int .i64]]])]
def wV:aR:=[(.agg,[.list [.int .i64],.list [.int .i64],.list [.int .i64]]),(.one,[.list [.int .i64]])]
def JP:aR:=[(.one,[.list [.int .i64]]),(.one,[.list [.int .i64]]),(.one,[.bool])]
def Rn:aR:=[(.one,[.list [.int .i64]]),(.one,[.list [.int .i64]]),(.one,[.list [.int .i64]])]
def Ro:aR:=[(.agg,[.list [.int .i64],.list [.int .i64],.list [.int .i64]]),(.agg,[.list [.int .i64],.list [.int .i64],.list [.int .i64]]),(.one,[.list [.int .i64]])]
def Rp:aR:=[(.agg,[.list [.int .i64],.list [.int .i64],.list [.int .i64]]),(.one,[.list [.int .i64]]),(.agg,[.list [.int .i64],.list [.int .i64],.list [.int .i64]]),(.one,[.list [.int .i64]]),(.one,[.int .i64])]
def Rq:aR:=[(.agg,[.list [.int .i64],.list [.int .i64],.list [.int .i64],.list [.int .i64]]),(.agg,[.list [.int .i64],.list [.int .i64],.list [.int .i64],.list [.int .i64]]),(.one,[.int .i64])]
def D5:aR:=[(.agg,[.list [.int .i64],.list [.int .i64],.list [.int .i64]]),(.agg,[.int .i64,.list [.list [.int .i64]]]),(.agg,[.list [.int .i64],.list [.int .i64],.list [.int .i64]]),(.agg,[.int .i64,.list [.list [.int .i64]]])]
def ak1:aR:=[(.one,[.int .i64]),(.one,[.int .i64]),(.agg,[.int .i64,.int .i64,.int .i64]),(.one,[.list [.int .i64]]),(.one,[.list [.int .i64]])]
def Rr:cX:=[[some .bn,some .bn,some .bn],[],[some .bq]]
def D6:aR:=[(.agg,[.int .i64,.int .i64,.int .i64]),(.agg,[.list [.int .i64],.list [.int .i64],.list [.int .i64]]),(.agg,[.list [.int .i64],.list [.int .i64],.list [.int .i64]]),(.one,[.list [.int .i64]])]
def sH:aR:=[(.agg,[.int .i64,.int .i64,.int .i64]),(.agg,[.list [.int .i64],.list [.int .i64],.list [.int .i64]]),(.agg,[.int .i64,.list [.list [.int .i64]]]),(.agg,[.list [.int .i64],.list [.int .i64],.list [.int .i64]]),(.agg,[.int .i64,.list [.list [.int .i64]]])]
def JQ:aR:=[(.agg,[.list [.int .i64],.list [.int .i64],.list [.int .i64]]),(.one,[.int .i64]),(.one,[.bool])]
theorem cE {α:Type} (xs:List α) (i:Nat):bF xs (i:Int)=xs[i]? :=by simp[bF]
theorem Sl {n:Int} (h1: -9223372036854775808<=n) (h2:n<=9223372036854775807):IntKind.wrap .i64 n=n:=by rw[IntKind.wrap_i64];omega
theorem d6 {a b:Int} (d: -9223372036854775808<=a+b:=by omega) (c:a+b<=9223372036854775807:=by omega):bo .i64 a b=a+b:=Sl d c
theorem mT {a b:Int} (d: -9223372036854775808<=a - b:=by omega) (c:a - b<=9223372036854775807:=by omega):iw .i64 a b=a - b:=Sl d c
theorem bm {α β:Type} (x:α) (f:α->Option β):(some x).ae f=f x:=rfl
theorem io {X ρ:Type} (x:X) (k:X->Option ρ):bK (some (.inl x)) k=k x:=rfl
theorem P6 {X ρ:Type} (x:ρ) (k:X->Option ρ):bK (some (.inr x):Option (X⊕ρ)) k=some x:=rfl
theorem aX {α:Type} {b:Bool} (h:b=true) (x y:α):au b x y=x:=by rw[h];rfl
theorem aW {α:Type} {b:Bool} (h:b=false) (x y:α):au b x y=y:=by rw[h];rfl
theorem nl {α:Type} (l:List α):aD (ab l)=(l.length:Int):=rfl
theorem dg {a b:Int} (h:a<b:=by omega):bO a b=true:=decide_eq_true h
theorem dQ {a b:Int} (h:b<=a:=by omega):bO a b=false:=decide_eq_false (Int.not_lt.2 h)
theorem lc {a b:Int} (h:a<=b:=by omega):fR a b=true:=decide_eq_true h
theorem zM {a b:Int} (h:b<a:=by omega):fR a b=false:=decide_eq_false (Int.not_le.2 h)
theorem uV {a b:Int} (h:a=b):cu a b=true:=by simp[cu,h]
theorem nw {a b:Int} (h:a≠b:=by omega):cu a b=false:=by simp[cu,h]
theorem qJ {a b:Int} (h:a≠b):fy a b=true:=by simp[fy,h]
theorem me {a b:Int} (h:a=b):fy a b=false:=by simp[fy,h]
theorem MK {p:Prop} [Decidable p] (h:¬p):df (decide p)=true:=by simp[df,h]
theorem FU {p:Prop} [Decidable p] (h:p):df (decide p)=false:=by simp[df,h]
theorem be (n:Nat):aO 0 n n=some ():=by simp[aO]
theorem iJ {α:Type} (xs:List α):ed xs (ab xs)=some xs:=by simp[ed,ab]
theorem eH {α:Type} (xs:List α):bc xs 0 (ab xs)=some xs:=by simp[bc,ab]
theorem qH {n by_:Nat} (h:n*by_<=eD):kB (aD n) (aD n) by_=some n:=by simp[kB,aD,h]
theorem kI {i n:Nat} (h:i<n):cN (i:Int) n=some i:=by simp[cN];omega
theorem dE {n:Nat} (h:n<18446744073709551616:=by omega):n<aN:=h
theorem drop_cons {α:Type} {xs:List α} {i:Nat} {x:α} (h:xs[i]? =some x):xs.drop i=x::xs.drop (i+1):=by obtain⟨b,a⟩:=OF.1 h;rw[List.drop_eq_getElem_cons b,a]
theorem af0 {X Y:Type} {f:X->Option (X⊕Y)} (st:Nat->X) {r:Y}:∀(n i:Nat),(∀j,i<=j->j<i+n->f (st j)=some (.inl (st (j+1))))->f (st (i+n))=some (.inr r)->∀N,n<N->cj N f (st i)=some r
 |0,i,_,a,N+1,_=>by have a:f (st i)=some (.inr r):=a;simp only[cj,a]
 |n+1,i,h1,a,N+1,hN=>by simp only[cj,h1 i (IT i) (by omega)];exact af0 st n (i+1) (fun j h3 h4=>h1 j (by omega) (by omega)) (by rw[show i+1+n=i+(n+1) by omega];exact a) N (by omega)
 |_,_,_,_,0,h=>by omega
theorem eR {X Y:Type} {f:X->Option (X⊕Y)} (st:Nat->X) {r:Y} (n:Nat) (c:∀j,j<n->f (st j)=some (.inl (st (j+1)))) (b:f (st n)=some (.inr r)) {a:X} (d:a=st 0) {N:Nat} (e:n<N):cj N f a=some r:=by subst d;exact af0 st n 0 (fun j _ h=>c j (by omega)) (by rw[zan];exact b) N e
theorem FM {X Y α:Type} {f:X->Option (X⊕Y)} (b:List α) (mk:Nat->X) (p:α->Bool) (d fF:Y)
  (h:∀i a,b[i]? =some a->p a=true->f (mk i)=some (.inl (mk (i+1)))) (o:∀i a,b[i]? =some a->p a=false->f (mk i)=some (.inr d)) (q:f (mk b.length)=some (.inr fF)) {g:X} (m:g=mk 0) {N:Nat} (e:b.length<N):
  cj N f g=some (if b.all p=true then fF else d):=by
 subst m;have l:∀(k:Nat) (i:Nat),i+k=b.length->∀N,k<N->cj N f (mk i)=some (if(b.drop i).all p=true then fF else d):=by
  intro k;induction k with
  |zero=>
   intro i n N e;obtain⟨N,rfl⟩:∃M,N=M+1:=⟨N - 1,by omega⟩;have:i=b.length:=by omega
   subst this;simp only[cj,q,zaQ,List.all_nil,if_true]
  |succ k j=>
   intro i n N e;obtain⟨N,rfl⟩:∃M,N=M+1:=⟨N - 1,by omega⟩;obtain⟨a,c⟩:∃a,b[i]? =some a:=⟨_,wt (by omega)⟩;rw[drop_cons c];cases hp:p a with
   |true=>
    simp only[cj,h i a c hp,zbq,hp,zac];exact j (i+1) (by omega) N (by omega)
   |false=>simp only[cj,o i a c hp,zbq,hp,Bool.false_and,Bool.false_eq_true,if_false]
 exact l b.length 0 (by omega) N e
def ri {S α:Type} (step:Nat->S->α->Option S):Nat->S->List α->Option S
 |_,s,[]=>some s
 |i,s,a::as=>match step i s a with
  |some s'=>ri step (i+1) s' as
  |none=>none
theorem XE {X Y α S:Type} {f:X->Option (X⊕Y)} (b:List α) (mk:S->Nat->X) (I:Nat->S->Prop) (step:Nat->S->α->Option S) (g:Y) (fF:S->Y)
  (l:∀i s a c,b[i]? =some a->I i s->step i s a=some c->f (mk s i)=some (.inl (mk c (i+1)))/\I (i+1) c)
  (r:∀i s a,b[i]? =some a->I i s->step i s a=none->f (mk s i)=some (.inr g))
  (t:∀s,I b.length s->f (mk s b.length)=some (.inr (fF s))) {s:S} (p:I 0 s) {j:X} (hx:j=mk s 0) {N:Nat} (h:b.length<N):
  cj N f j=some (match ri step 0 s b with|some c=>fF c|none=>g):=by
 subst hx;have o:∀(k:Nat) (i:Nat) (s:S),I i s->i+k=b.length->∀N,k<N->cj N f (mk s i)=some (match ri step i s (b.drop i) with|some c=>fF c|none=>g):=by
  intro k;induction k with
  |zero=>
   intro i s d q N h;obtain⟨N,rfl⟩:∃M,N=M+1:=⟨N - 1,by omega⟩;have:i=b.length:=by omega
   subst this;simp only[cj,t s d,zaQ,ri]
  |succ k n=>
   intro i s d q N h;obtain⟨N,rfl⟩:∃M,N=M+1:=⟨N - 1,by omega⟩;obtain⟨a,e⟩:∃a,b[i]? =some a:=⟨_,wt (by omega)⟩;rw[drop_cons e];cases hp:step i s a with
   |some c=>
    obtain⟨m,u⟩:=l i s a c e d hp;simp only[cj,m,ri,hp];exact n (i+1) c u (by omega) N (by omega)
   |none=>simp only[cj,r i s a e d hp,ri,hp]
 exact o b.length 0 s p (by omega) N h
def y4 {S α:Type} (step:Nat->S->α->S):Nat->S->List α->S
 |_,s,[]=>s
 |i,s,a::as=>y4 step (i+1) (step i s a) as
theorem avu {X Y α S:Type} {f:X->Option (X⊕Y)} (b:List α) (mk:S->Nat->X) (I:Nat->S->Prop) (step:Nat->S->α->S) (fF:S->Y) (h:∀i s a,b[i]? =some a->I i s->f (mk s i)=some (.inl (mk (step i s a) (i+1)))/\I (i+1) (step i s a)) (p:∀s,I b.length s->f (mk s b.length)=some (.inr (fF s))) {s:S} (n:I 0 s) {g:X} (hx:g=mk s 0) {N:Nat} (d:b.length<N): cj N f g=some (fF (y4 step 0 s b)):=by subst hx;have m:∀(k:Nat) (i:Nat) (s:S),I i s->i+k=b.length->∀N,k<N->cj N f (mk s i)=some (fF (y4 step i s (b.drop i))):=(by intro k;induction k with|zero=>intro i s c o N d;obtain⟨N,rfl⟩:∃M,N=M+1:=⟨N - 1,by omega⟩;have:i=b.length:=(by omega);subst this;simp only[cj,p s c,zaQ,y4]|succ k l=>intro i s c o N d;obtain⟨N,rfl⟩:∃M,N=M+1:=⟨N - 1,by omega⟩;obtain⟨a,e⟩:∃a,b[i]? =some a:=⟨_,wt (by omega)⟩;rw[drop_cons e];obtain⟨j,q⟩:=h i s a e c;simp only[cj,j,y4];exact l (i+1) _ q (by omega) N (by omega));exact m b.length 0 s n (by omega) N d
theorem ph {α:Type} {b:List α} {i:Nat} {a:α} (h:b[i]? =some a):bO (i:Int) (aD (ab b))=true:=by have:=(OF.1 h).1;exact dg (by have:=nl b;omega)
theorem iQ {α:Type} (a:List α):bO ((a.length:Nat):Int) (aD (ab a))=false:=dQ (by have:=nl a;omega)
theorem tw {α:Type} {b:List α} {i:Nat} {a:α} (h:b[i]? =some a) (hl:b.length<=9223372036854775807):bo .i64 (i:Int) 1=((i+1:Nat):Int):=by have:=(OF.1 h).1;rw[d6];omega
theorem DC {α:Type} {b:List α} {i:Nat} {a:α} (h:b[i]? =some a):i<b.length:=(OF.1 h).1
theorem Z2 (n:Int) (aBM:0<=n) (aBN:n<2^63):IntKind.i64.wrap n=n:=by rw[IntKind.wrap_i64];omega
theorem amK {a b:Nat} (c:a<2^63) (d:b<2^63):yM .i64 (a:Int) (b:Int)=((a&&&b:Nat):Int):=(bits_nat .i64 63 (by decide) Z2 a b c d).1
theorem axN {a b:Nat} (c:a<2^63) (d:b<2^63):DQ .i64 (a:Int) (b:Int)=((a|||b:Nat):Int):=(bits_nat .i64 63 (by decide) Z2 a b c d).2
theorem aAq {k:Nat} (b:k<63):D8 .i64 1 (k:Int)=some ((2^k:Nat):Int):=by unfold D8;rw[ak (by omega)];congr 1;rw[AN,show min k (IntKind.bits .i64)=k from Nat.min_eq_left (by simp[IntKind.bits];omega),zbl];have:(2:Int)^k=((2^k:Nat):Int):=(by norm_cast);rw[this];refine Z2 _ (Int.natCast_nonneg _) ?_;have:=Nat.pow_lt_pow_right (a:=2) (by decide) b;exact_mod_cast this
theorem pW {z:Int} (h:0<=z):∃n:Nat,z=(n:Int):=⟨z.toNat,by omega⟩
theorem BK {α:Type} (l:List α) (k:Nat) (x:α):ab (bB l k x)=ab l:=by simp[ab,bB]
theorem uv {α:Type} (n:Nat) (x:α):ab (cR n x)=n:=by simp[ab,cR]
theorem kv {n k:Nat} (h:n*k<=eD):iN n k=some ():=aj h
theorem f9 (k:Nat):av 0 k=k:=by simp[av]
theorem Ot {α:Type} {l:List α} {i:Nat} {a:α} (h:l[i]? =some a):cN (i:Int) (ab l)=some i:=kI (DC h)
theorem wH (a b:Int):iM a b=min a b:=by unfold iM;split<;>omega
theorem aga (a b:Int):wF a b=max a b:=by unfold wF;split<;>omega
theorem XQ (a b:Int):fy a b= !decide (a=b):=by by_cases h:a=b<;>simp[fy,h]
theorem afQ {n:Nat}:∀{l:List Nat},n∈l->n<=l.sum
 |[],h=>by cases h
 |a::l,h=>by rw[zaB];rcases List.mem_cons.1 h with rfl|h;omega;have:=afQ h;omega
def kF (s:Nat) (k:Int):Int:=if(s:Int)<=k then k - s else -1
theorem ZD {s:Nat} {k:Int} (h:(s:Int)<=k):kF s k=k - s:=aj h
theorem Nz {s:Nat} {k:Int} (h:¬(s:Int)<=k):kF s k= -1:=ak h
def Dq (k:Int):Prop:=0<=k/\k<=1048576
instance (k:Int):Decidable (Dq k):=inferInstanceAs (Decidable (0<=k/\k<=1048576))
theorem RY {o:Option Int} {s:Nat} {k:Int} {f:Int->Option Int} (a:o=some (kF s k)):o.ae (fun i=>au (bO i 0) (some (-1)) (f i))=if(s:Int)<=k then f (k - s) else some (-1):=by rw[a,bm];unfold kF;by_cases h:(s:Int)<=k;rw[aj h,aj h,aW dQ];rw[ak h,ak h,aX dg]
theorem alN {α:Type} (sz:α->Nat):∀(l:List α) (i:Nat) (k:Int),0<=k->(match ri (fun _ (k:Int) e=>if(sz e:Int)<=k then some (k - sz e) else none) i k l with|some k'=>k'|none=> -1)=kF (l.map sz).sum k
 |[],i,k,hk=>by simp[ri,kF,hk]
 |e::l,i,k,hk=>by rw[ri];by_cases h:(sz e:Int)<=k;rw[aj h];simp only;rw[alN sz l (i+1) (k - sz e) (by omega)];simp only[kF,If,zaB];by_cases a:((l.map sz).sum:Int)<=k - sz e;rw[aj a,aj (by omega)];omega;rw[ak a,ak (by omega)];rw[ak h];simp only[kF,If,zaB];rw[ak (by omega)]
theorem aA1 {α:Type} (F:α×Int->Option Int) (sz:α->Nat) (l:List α) (hl:l.length<=9223372036854775807) (d:∀e∈l,∀k,Dq k->F (e,k)=some (kF (sz e) k)) (k:Int) (g:Dq k):
  au (bO (iw .i64 k (aD (ab l))) 0) (some (-1)) (bK (cj aN (fun(s:List α×Int×Int)=>au (bO s.2.2 (aD (ab s.1))) ((bF s.1 s.2.2).ae fun e=>(F (e,s.2.1)).ae fun i=>au (bO i 0) (some (.inr (.inr (-1)))) (some (.inl (s.1,i,bo .i64 s.2.2 1)))) (some (.inr (.inl s.2.1)))) (l,iw .i64 k (aD (ab l)),0)) (fun i=>some i))=some (kF (l.length+(l.map sz).sum) k):=by
 obtain⟨k0,k1⟩:=g;have hn:=nl l;rw[mT];by_cases h:k<l.length
 ·rw[aX dg,kF,ak (by omega)]
 rw[aW dQ];rw[XE l (fun(r:Int) i=>(l,r,(i:Int))) (fun _ r=>Dq r) (fun _ (k:Int) e=>if(sz e:Int)<=k then some (k - sz e) else none) (AI (-1)) (fun r=>co r) ?_ ?_ ?_ (s:=k - aD (ab l)) ⟨by omega,by omega⟩ ?_ dE]
 ·have:=alN sz l 0 (k - aD (ab l)) (by omega);have e:kF (l.length+(l.map sz).sum) k=kF (l.map sz).sum (k - aD (ab l)):=by
   simp only[kF];by_cases f:((l.map sz).sum:Int)<=k - aD (ab l)
   ·rw[aj f,aj (by omega)];omega
   ·rw[ak f,ak (by omega)]
  rw[e,<-this];cases ri (fun _ (k:Int) e=>if(sz e:Int)<=k then some (k - sz e) else none) 0 (k - aD (ab l)) l<;>rfl
 ·intro i r e r' b hr a;split at a
  ·rename_i c;injection a with a;subst a;simp only
   rw[aX (ph b),cE,b,bm,d e (BY b) r hr,bm,kF,aj c,aW dQ,tw b (by omega)];exact⟨rfl,by have:=hr.1;have:=hr.2;constructor<;>omega⟩
  ·cases a
 ·intro i r e b hr a;split at a
  ·cases a
  ·rename_i c;simp only
   rw[aX (ph b),cE,b,bm,d e (BY b) r hr,bm,kF,ak c,aX dg]
 ·intro r _;simp only
  rw[aW (iQ l)]
 ·rfl
def AM {α:Type} (z:α) (l:List α) (i:Nat):List α:=l.take i++zbi (l.length - i) z
theorem aci {α Y:Type} {f:(List α×Int)×List α->Option (((List α×Int)×List α)⊕Y)} (l:List α) (z:α) {r:Y} (c:∀(i:Nat) e ys,l[i]? =some e->ys.length=l.length->ys[i]? =some z->f ((l,(i:Int)),ys)=some (.inl ((l,((i+1:Nat):Int)),ys.set i e))) (b:f ((l,(l.length:Int)),l)=some (.inr r)) (hl:l.length<18446744073709551616):cj aN f ((l,0),cR (ab l) z)=some r:=by refine eR (fun i=>((l,(i:Int)),AM z l i)) l.length ?_ ?_ ?_ (dE hl);intro j d;obtain⟨e,a⟩:∃e,l[j]? =some e:=⟨_,wt d⟩;rw[c j e _ a (by simp[AM];omega)];have:(AM z l j).set j e=AM z l (j+1):=(by unfold AM;rw[za9 _ _ (by simp;omega),zaL,a,show l.length - j=(l.length - (j+1))+1 by omega,zbk];simp only[IN,show j - min j l.length=0 by omega,zbr,Option.toList_some,zbw,zbD,List.nil_append]);rw[this];unfold AM;rw[zaj (by simp;omega)];simp only[IN,show j - min j l.length=0 by omega];rw[List.getElem?_replicate,aj (by omega)];have:AM z l l.length=l:=(by simp[AM]);rw[this];exact b;simp[AM,cR,ab]
theorem abP {α:Type} [DecidableEq α] (E:α×α->Option Bool) (l r:List α) (j:∀a∈l,∀b,E (a,b)=some (decide (a=b))) (hl:l.length<=4611686018427387904): au (fy (aD (ab l)) (aD (ab r))) (some false) (bK (cj aN (fun s:List α×List α×Int=>au (bO s.2.2 (aD (ab s.1))) ((bF s.1 s.2.2).ae fun a=>(bF s.2.1 s.2.2).ae fun b=>(E (a,b)).ae fun c=>au (df c) (some (.inr (.inr false))) (some (.inl (s.1,s.2.1,bo .i64 s.2.2 1)))) (some (.inr (.inl ())))) (l,r,0)) fun _=>some true)=some (decide (l=r)):=by by_cases g:l.length=r.length;rw[aW (me (by have:=nl l;have:=nl r;omega))];have m:(l.zip r).length=l.length:=(by simp;omega);rw[FM (l.zip r) (fun i=>(l,r,(i:Int))) (fun p=>decide (p.1=p.2)) (AI false) (co ()) ?_ ?_ ?_ ?_ dE];have:((l.zip r).all fun p=>decide (p.1=p.2))=decide (l=r):=(by clear j hl m;induction l generalizing r with|nil=>(cases r with|nil=>rfl|cons b r=>cases g)|cons a l n=>cases r with|nil=>cases g|cons b r=>simp only[List.zip_cons_cons,zbq];rw[n r (by simpa using g)];simp only[List.cons.injEq,Bool.decide_and]);rw[this];by_cases h:l=r<;>simp[h,bK];rintro i ⟨a,b⟩ k e;obtain⟨d,f⟩:=za4.1 k;simp only at d f e⊢;rw[aX (ph d),cE,d,bm,cE,f,bm,j a (BY d),bm,aW (by rw[e];rfl),tw d (by omega)];rintro i ⟨a,b⟩ k e;obtain⟨d,f⟩:=za4.1 k;simp only at d f e⊢;rw[aX (ph d),cE,d,bm,cE,f,bm,j a (BY d),bm,aX (by rw[e];rfl)];simp only;rw[m,aW (iQ l)];rfl;rw[aX (qJ (by have:=nl l;have:=nl r;omega)),decide_eq_false (fun h=>g (by rw[h]))]
theorem aof (l r:U) (hl:l.length<=4611686018427387904): au (fy (aD (ab l)) (aD (ab r))) (some false) (bK (cj aN (fun s:U×U×Int=>au (bO s.2.2 (aD (ab s.1))) ((bF s.1 s.2.2).ae fun a=>(bF s.2.1 s.2.2).ae fun b=>au (fy a b) (some (.inr (.inr false))) (some (.inl (s.1,s.2.1,bo .i64 s.2.2 1)))) (some (.inr (.inl ())))) (l,r,0)) fun _=>some true)=some (decide (l=r)):=by have:=abP (fun p:Int×Int=>some (decide (p.1=p.2))) l r (fun _ _ _=>rfl) hl;refine Eq.trans ?_ this;congr 3
def kC {α:Type} (dH:α->Nat) (mk:α->Int->α):List α->Int->List α
 |[],_=>[]
 |e::l,k=>mk e k::kC dH mk l (k+dH e)
def lO {α:Type} (dH:α->Nat) (l:List α):Nat:=(l.map dH).sum
theorem anG {α:Type} (dH:α->Nat):lO dH []=0:=rfl
theorem Oz {α:Type} (dH:α->Nat) (e:α) (l:List α):lO dH (e::l)=dH e+lO dH l:=by simp[lO]
theorem anF {α:Type} (dH:α->Nat) (l r:List α):lO dH (l++r)=lO dH l+lO dH r:=by simp[lO]
theorem ME {α:Type} (dH:α->Nat) (mk:α->Int->α):∀(l:List α) (k:Int),(kC dH mk l k).length=l.length
 |[],_=>rfl
 |e::l,k=>by simp[kC,ME dH mk l]
theorem agl {α:Type} (dH:α->Nat) (mk:α->Int->α):∀(l r:List α) (k:Int),kC dH mk (l++r) k=kC dH mk l k++kC dH mk r (k+lO dH l)
 |[],r,k=>by simp[kC,lO]
 |e::l,r,k=>by simp only[zbD,kC,agl dH mk l r,Oz];rw[show k+(dH e:Int)+(lO dH l:Nat)=k+((dH e+lO dH l:Nat):Int) by omega]
theorem Zz {α:Type} (dH:α->Nat) (mk:α->Int->α) (f:α->Nat) (a:∀e k,f (mk e k)=f e):∀(l:List α) (k:Int),((kC dH mk l k).map f).sum=(l.map f).sum
 |[],_=>rfl
 |e::l,k=>by simp[kC,a,Zz dH mk f a l]
theorem agm {α:Type} (dH:α->Nat) (mk:α->Int->α) (a:∀e k,dH (mk e k)=dH e) (hm:∀e k,mk (mk e k) k=mk e k):∀(l:List α) (k:Int),kC dH mk (kC dH mk l k) k=kC dH mk l k
 |[],_=>rfl
 |e::l,k=>by simp only[kC,hm,a,agm dH mk a hm l]
theorem OA {α:Type} (dH sz:α->Nat) (a:∀e,dH e<=4*(1+sz e)):∀l:List α,lO dH l<=4*(l.length+(l.map sz).sum)
 |[]=>by simp[lO]
 |e::l=>by have:=OA dH sz a l;have:=a e;simp only[Oz,zab,If,zaB];omega
theorem af7 {α Y:Type} {f:(Int×Int)×List α->Option (((Int×Int)×List α)⊕Y)} (l:List α) (dH sz:α->Nat) (mk:α->Int->α) (k:Int) {r:Y} (h:∀e,dH e<=4*(1+sz e))
  (hk:0<=k) (hb:k+4*(l.length+(l.map sz).sum:Nat)<=1099511627776)
  (g:∀(i:Nat) e ys (k':Int),l[i]? =some e->ys.length=l.length->ys[i]? =some e->0<=k'->k'+4*(1+sz e:Nat)<=1099511627776->f ((k',(i:Int)),ys)=some (.inl ((k'+dH e,((i+1:Nat):Int)),ys.set i (mk e k'))))
  (n:f ((k+lO dH l,(l.length:Int)),kC dH mk l k)=some (.inr r)):cj aN f ((k,0),l)=some r:=by
 refine eR (fun i=>((k+(lO dH (l.take i):Nat),(i:Int)),kC dH mk (l.take i) k++l.drop i)) l.length ?_ ?_ ?_ dE
 ·intro j m;obtain⟨e,b⟩:∃e,l[j]? =some e:=⟨_,wt m⟩;have a:(kC dH mk (l.take j) k).length=j:=by rw[ME,IN];omega
  have aBK:(l.map sz).sum=((l.take j).map sz).sum+(sz e+((l.drop (j+1)).map sz).sum):=by
   conv=>lhs;rw[<-zba j l,drop_cons b]
   rw[zbb,List.sum_append,If,zaB]
  have c:=OA dH sz h (l.take j);rw[IN] at c;rw[g j e _ _ b (by rw[zae,a,zbE];omega) (by rw[zaj (by omega),a,zbc,zaE];simpa using b) (by omega) (by omega)];have d:l.take (j+1)=l.take j++[e]:=by rw[zaL,b];rfl
  have o:(kC dH mk (l.take j) k++l.drop j).set j (mk e (k+(lO dH (l.take j):Nat)))=kC dH mk (l.take (j+1)) k++l.drop (j+1):=by
   rw[d,agl,drop_cons b,za9 _ _ (by omega),a,zbc,zbr,zbw];rfl
  rw[o,d,anF,Oz,anG,show k+(lO dH (l.take j):Nat)+(dH e:Nat)=k+((lO dH (l.take j)+(dH e+0):Nat):Int) by omega]
 ·simp only[zak,zaQ,List.append_nil];exact n
 ·simp[lO,kC]
theorem ad9 {α:Type} [DecidableEq α] (dH:α->Nat) (mk:α->Int->α):∀(l:List α) (i:Nat) (k:Int), ri (fun _ (k:Int) e=>if e=mk e k then some (k+(dH e:Int)) else none) i k l=if l=kC dH mk l k then some (k+(lO dH l:Int)) else none
 |[],i,k=>by simp[ri,kC,lO]
 |e::l,i,k=>by simp only[ri,kC,Oz];by_cases h:e=mk e k;rw[aj h];simp only;rw[ad9 dH mk l];by_cases a:l=kC dH mk l (k+dH e);rw[aj a,aj (by rw[<-h,<-a])];congr 1;omega;rw[ak a,ak (fun b=>a (zbS b).2)];rw[ak h,ak (fun b=>h (zbS b).1)]
theorem aq0 {α:Type} [DecidableEq α] {f:List α×Int×Int->Option ((List α×Int×Int)⊕(Int⊕Int))} (l:List α) (dH sz:α->Nat) (mk:α->Int->α) (k:Int) (g:∀e,dH e<=4*(1+sz e))
  (j:0<=k) (m:k+4*(l.length+(l.map sz).sum:Nat)<=1099511627776)
  (d:∀(i:Nat) e (k':Int),l[i]? =some e->0<=k'->k'+4*(1+sz e:Nat)<=1099511627776->f (l,k',(i:Int))=if e=mk e k' then some (.inl (l,k'+(dH e:Int),((i+1:Nat):Int))) else some (.inr (.inr (-1))))
  (n:∀k',f (l,k',(l.length:Int))=some (.inr (.inl k'))):cj aN f (l,k,0)=some (if l=kC dH mk l k then .inl (k+(lO dH l:Int)) else .inr (-1)):=by
 rw[XE l (fun(k:Int) i=>(l,k,(i:Int))) (fun i k'=>0<=k'/\k'+4*((l.drop i).length+((l.drop i).map sz).sum:Nat)<=1099511627776) (fun _ (k:Int) e=>if e=mk e k then some (k+(dH e:Int)) else none) (AI (-1)) (fun k=>co k) ?_ ?_ ?_ (s:=k) ⟨j,by simpa using m⟩ ?_ dE]
 ·rw[ad9];by_cases h:l=kC dH mk l k
  ·rw[aj h,aj h]
  ·rw[ak h,ak h]
 ·intro i k' e s' c b a;rw[drop_cons c] at b;simp only[zab,If,zaB] at b;split at a
  ·rename_i hm;injection a with a;subst a;have hce:=g e;exact⟨by rw[d i e k' c b.1 (by omega),aj hm],by omega,by omega⟩
  ·cases a
 ·intro i k' e c b a;rw[drop_cons c] at b;simp only[zab,If,zaB] at b;split at a
  ·cases a
  ·rename_i hm;rw[d i e k' c b.1 (by omega),ak hm]
 ·intro k' _;exact n k'
 ·rfl
theorem VO {o:Option Int} {p:Prop} [Decidable p] {k:Int} {Y:Type} {f:Int->Option Y} {y:Option Y} (b:0<=k) (a:o=some (if p then k else -1)): o.ae (fun i=>au (bO i 0) y (f i))=if p then f k else y:=by rw[a,bm];by_cases h:p;rw[aj h,aj h,aW (dQ b)];rw[ak h,ak h,aX dg]
theorem alG {α:Type}:∀l:List α,(l.map fun _=>0).sum=0
 |[]=>rfl
 |_::l=>by simp[alG l]
theorem RZ {o:Option Int} {s:Nat} {k:Int} {f:Int->Option Bool} (a:o=some (kF s k)):o.ae (fun i=>au (bO i 0) (some true) (f i))=if(s:Int)<=k then f (k - s) else some true:=by rw[a,bm];unfold kF;by_cases h:(s:Int)<=k;rw[aj h,aj h,aW dQ];rw[ak h,ak h,aX dg]
theorem axn (b:Bool):FT b b=false:=by cases b<;>rfl
theorem axp (a:Int):fy a a=false:=me rfl
theorem XU:df true=false:=rfl
theorem Z0 {α:Type} {xs:List α} {n:Nat} (h:xs.length=n):bc xs 0 n=some xs:=by subst h;exact eH xs
theorem rJ {a b:Nat} (h:a=b):kq a b=some ():=aj h
theorem qj {n m:Nat} (h:n=m):aO 0 n m=some ():=by subst h;exact be n
theorem aqF {α:Type} {l:List α} {i:Nat} {a b:α} (h:l[i]? =some a):(l.set i b)[i]? =some b:=zaI (DC h)
theorem Ph {α:Type} {l:List α} {i:Nat} {a b:α} (h:l[i]? =some a):bQ (bB l i b) i=some b:=aqF h
theorem YW {α:Type} (l:List α) (i:Nat) (a b:α):bB (bB l i a) i b=bB l i b:=by simp[bB,List.set_set]
def fS (l:U):Nat:=l.length
def B6 (l:U):Bool:=decide (l.length<=9223372036854775807)
def vM:U×Int->Option Int:=fun((x,k):U×Int)=>if Dq k/\B6 x=true then some (kF (fS x) k) else none
def yD:U->Option U:=fun(x:U)=>if fS x<=1048576 then some x else none
def yA:U×U->Option Bool:=fun((x,y):U×U)=>if fS x<=1048576 then some (decide (x=y)) else none
def tJ (l:List U):Nat:=l.length+(l.map fS).sum
def Kk (l:List U):Bool:=decide (l.length<=9223372036854775807)&&l.all B6
def GU:(List U)×Int->Option Int:=fun((x,k):(List U)×Int)=>if Dq k/\Kk x=true then some (kF (tJ x) k) else none
def GV:(List U)->Option (List U):=fun(x:List U)=>if tJ x<=1048576 then some x else none
def GR:(List U)×(List U)->Option Bool:=fun((x,y):(List U)×(List U))=>if tJ x<=1048576 then some (decide (x=y)) else none
def iy (x:U×U×U):Nat:=match x with|(a0,a1,a2)=>fS a0+fS a1+fS a2
def Gz (x:U×U×U):Bool:=match x with|(a0,a1,a2)=>B6 a0&&B6 a1&&B6 a2
def Ch:(U×U×U)×Int->Option Int:=fun((x,k):(U×U×U)×Int)=>if Dq k/\Gz x=true then some (kF (iy x) k) else none
def sL:(U×U×U)->Option (U×U×U):=fun(x:U×U×U)=>if iy x<=1048576 then some x else none
def tN:(U×U×U)×(U×U×U)->Option Bool:=fun((x,y):(U×U×U)×(U×U×U))=>if iy x<=1048576 then some (decide (x=y)) else none
def lk (x:Int×(List U)):Nat:=match x with|(a0,a1)=>tJ a1
def Gy (x:Int×(List U)):Bool:=match x with|(a0,a1)=>Kk a1
def Cg:(Int×(List U))×Int->Option Int:=fun((x,k):(Int×(List U))×Int)=>if Dq k/\Gy x=true then some (kF (lk x) k) else none
def sK:(Int×(List U))->Option (Int×(List U)):=fun(x:Int×(List U))=>if lk x<=1048576 then some x else none
def yz:(Int×(List U))×(Int×(List U))->Option Bool:=fun((x,y):(Int×(List U))×(Int×(List U)))=>if lk x<=1048576 then some (decide (x=y)) else none
def bH (l:U):Nat:=lO (fun _=>1) l
def eo (l:U) (k:Int):U:=kC (fun _=>1) (fun _ k=>k) l k
def vL:U×Int->Option (Int×U):=fun((x,k):U×Int)=>if 0<=k/\k+4*(fS x:Nat)<=1099511627776 then some (k+(bH x:Nat),eo x k) else none
def yB:U×Int->Option Int:=fun((x,k):U×Int)=>if 0<=k/\k+4*(fS x:Nat)<=1099511627776 then some (if x=eo x k then k+(bH x:Nat) else -1) else none
def q8 (l:List U):Nat:=lO bH l
def yh (l:List U) (k:Int):List U:=kC bH eo l k
def GS:(List U)×Int->Option (Int×(List U)):=fun((x,k):(List U)×Int)=>if 0<=k/\k+4*(tJ x:Nat)<=1099511627776 then some (k+(q8 x:Nat),yh x k) else none
def Qw (x:U×U×U) (k:Int):U×U×U:=match x with|(a0,a1,a2)=>(eo a0 (k),eo a1 (k+(bH a0:Nat)),eo a2 (k+(bH a0:Nat)+(bH a1:Nat)))
def yC:(U×U×U)×Int->Option (Int×U×U×U):=fun(((a0,a1,a2),k):(U×U×U)×Int)=>if 0<=k/\k+4*(iy (a0,a1,a2):Nat)<=1099511627776 then some (k+(bH a0:Nat)+(bH a1:Nat)+(bH a2:Nat),eo a0 (k),eo a1 (k+(bH a0:Nat)),eo a2 (k+(bH a0:Nat)+(bH a1:Nat))) else none
def Af:(U×U×U)×Int->Option Int:=fun(((a0,a1,a2),k):(U×U×U)×Int)=>if 0<=k/\k+4*(iy (a0,a1,a2):Nat)<=1099511627776 then some (if a0=eo a0 (k)/\a1=eo a1 (k+(bH a0:Nat))/\a2=eo a2 (k+(bH a0:Nat)+(bH a1:Nat)) then k+(bH a0:Nat)+(bH a1:Nat)+(bH a2:Nat) else -1) else none
def Cf:(Int×(List U))×Int->Option (Int×(List U)):=fun(((a0,a1),k):(Int×(List U))×Int)=>if 0<=k/\k+4*(lk (a0,a1):Nat)<=1099511627776 then some (k+(q8 a1:Nat),yh a1 (k)) else none
def S6 (NN:Nat):(U×Int)->(Option Int):=
 (fun((l0,i1):(U×Int))=>
 au (bO (iw .i64 i1 (aD (ab l0))) (0:Int))
 (some ((-1:Int)))
 (some (iw .i64 i1 (aD (ab l0)))))
def S9 (NN:Nat):U->(Option U):=
 (fun(l0:U)=>
 (kB (aD (ab l0)) (aD (ab l0)) 8).ae (fun k1=>
 bK ((aO 0 k1 (ab (cR k1 (0:Int)))).ae (fun _=>
 cj NN (fun(((l2,i3),l4):((U×Int)×U))=>
 au (bO i3 (aD (ab l2)))
 ((bF l2 i3).ae (fun i5=>
 (cN i3 (ab l4)).ae (fun k6=>
 (bQ l4 (av 0 k6)).ae (fun i7=>
 (aO 0 (ab l4) (ab (bB l4 (av 0 k6) i5))).ae (fun _=>
 some (co ((l2,bo .i64 i3 1),bB l4 (av 0 k6) i5)))))))
 ((ah l4 (
 some (co l4))).ae (fun l8=>
 some (AI l8))))
 ((l0,(0:Int)),cR k1 (0:Int))))
 (fun l9=>
 (ed l9 (ab l9)).ae (fun bS=>
 some bS))))
def aaf (NN:Nat):(U×U)->(Option Bool):=
 (fun((l0,l1):(U×U))=>
 au (fy (aD (ab l0)) (aD (ab l1)))
 (some false)
 (bK (cj NN (fun((l2,l3,i4):(U×(U×Int)))=>
 au (bO i4 (aD (ab l2)))
 ((bF l2 i4).ae (fun i5=>
 (bF l3 i4).ae (fun i6=>
 au (fy i5 i6)
 (some (AI (AI false)))
 (some (co (l2,l3,bo .i64 i4 1))))))
 (some (AI (co ()))))
 (l0,l1,(0:Int)))
 (fun _=>
 some true)))
def aah (NN:Nat):((List U)×Int)->(Option Int):=
 (fun((l0,i1):((List U)×Int))=>
 au (bO (iw .i64 i1 (aD (ab l0))) (0:Int))
 (some ((-1:Int)))
 (bK (cj NN (fun((l2,i3,i4):((List U)×(Int×Int)))=>
 au (bO i4 (aD (ab l2)))
 ((bF l2 i4).ae (fun l5=>
 (vM (l5,i3)).ae (fun i6=>
 au (bO i6 (0:Int))
 (some (AI (AI ((-1:Int)))))
 (some (co (l2,i6,bo .i64 i4 1))))))
 (some (AI (co i3))))
 (l0,iw .i64 i1 (aD (ab l0)),(0:Int)))
 (fun i7=>
 some i7)))
def Ta (NN:Nat):(List U)->(Option (List U)):=
 (fun(l0:(List U))=>
 (kB (aD (ab l0)) (aD (ab l0)) 24).ae (fun k1=>
 bK ((aO 0 k1 (ab (cR k1 (([]:U))))).ae (fun _=>
 cj NN (fun(((l2,i3),l4):(((List U)×Int)×(List U)))=>
 au (bO i3 (aD (ab l2)))
 ((bF l2 i3).ae (fun l5=>
 (yD l5).ae (fun l6=>
 (cN i3 (ab l4)).ae (fun k7=>
 (bQ l4 (av 0 k7)).ae (fun l8=>
 (ed l6 (ab l6)).ae (fun l9=>
 (aO 0 (ab l4) (ab (bB l4 (av 0 k7) l9))).ae (fun _=>
 some (co ((l2,bo .i64 i3 1),bB l4 (av 0 k7) l9)))))))))
 ((ah l4 (
 some (co l4))).ae (fun bS=>
 some (AI bS))))
 ((l0,(0:Int)),cR k1 (([]:U)))))
 (fun cZ=>
 (ed cZ (ab cZ)).ae (fun cB=>
 some cB))))
def aag (NN:Nat):((List U)×(List U))->(Option Bool):=
 (fun((l0,l1):((List U)×(List U)))=>
 au (fy (aD (ab l0)) (aD (ab l1)))
 (some false)
 (bK (cj NN (fun((l2,l3,i4):((List U)×((List U)×Int)))=>
 au (bO i4 (aD (ab l2)))
 ((bF l2 i4).ae (fun l5=>
 (bF l3 i4).ae (fun l6=>
 (yA (l5,l6)).ae (fun b7=>
 au (df b7)
 (some (AI (AI false)))
 (some (co (l2,l3,bo .i64 i4 1)))))))
 (some (AI (co ()))))
 (l0,l1,(0:Int)))
 (fun _=>
 some true)))
def S7 (NN:Nat):((U×(U×U))×Int)->(Option Int):=
 (fun(((l0,l1,l2),i3):((U×(U×U))×Int))=>
 (vM (l0,i3)).ae (fun i4=>
 au (bO i4 (0:Int))
 (some ((-1:Int)))
 ((vM (l1,i4)).ae (fun i5=>
 au (bO i5 (0:Int))
 (some ((-1:Int)))
 ((vM (l2,i5)).ae (fun i6=>
 au (bO i6 (0:Int))
 (some ((-1:Int)))
 (some i6)))))))
def Tb (NN:Nat):(U×(U×U))->(Option (U×(U×U))):=
 (fun((l0,l1,l2):(U×(U×U)))=>
 (yD l0).ae (fun l3=>
 (yD l1).ae (fun l4=>
 (yD l2).ae (fun l5=>
 (ed l3 (ab l3)).ae (fun l6=>
 (ed l4 (ab l4)).ae (fun l7=>
 (ed l5 (ab l5)).ae (fun l8=>
 some (l6,l7,l8))))))))
def SY (NN:Nat):((U×(U×U))×(U×(U×U)))->(Option Bool):=
 (fun(((l0,l1,l2),l3,l4,l5):((U×(U×U))×(U×(U×U))))=>
 (yA (l0,l3)).ae (fun b6=>
 au (df b6)
 (some false)
 ((yA (l1,l4)).ae (fun b7=>
 au (df b7)
 (some false)
 ((yA (l2,l5)).ae (fun b8=>
 au (df b8)
 (some false)
 (some true)))))))
def S5 (NN:Nat):((Int×(List U))×Int)->(Option Int):=
 (fun(((i0,l1),i2):((Int×(List U))×Int))=>
 (GU (l1,i2)).ae (fun i3=>
 au (bO i3 (0:Int))
 (some ((-1:Int)))
 (some i3)))
def S8 (NN:Nat):(Int×(List U))->(Option (Int×(List U))):=
 (fun((i0,l1):(Int×(List U)))=>
 (GV l1).ae (fun l2=>
 (ed l2 (ab l2)).ae (fun l3=>
 some (i0,l3))))
def SX (NN:Nat):((Int×(List U))×(Int×(List U)))->(Option Bool):=
 (fun(((i0,l1),i2,l3):((Int×(List U))×(Int×(List U))))=>
 au (fy i0 i2)
 (some false)
 ((GR (l1,l3)).ae (fun b4=>
 au (df b4)
 (some false)
 (some true))))
def S2 (NN:Nat):(U×Int)->(Option (Int×U)):=
 (fun((l0,i1):(U×Int))=>
 bK (ah l0 (
 cj NN (fun(((i2,i3),l4):((Int×Int)×U))=>
 au (bO i3 (aD (ab l4)))
 ((cN i3 (ab l4)).ae (fun k5=>
 (bQ l4 (av 0 k5)).ae (fun i6=>
 (aO 0 (ab l4) (ab (bB l4 (av 0 k5) i2))).ae (fun _=>
 some (co ((bo .i64 i2 1,bo .i64 i3 1),bB l4 (av 0 k5) i2))))))
 (some (AI (co (i2,l4)))))
 ((i1,(0:Int)),l0)))
 (fun(i7,l8)=>
 (kq (ab l8) (ab l0)).ae (fun _=>
 some (i7,l8))))
def S3 (NN:Nat):((List U)×Int)->(Option (Int×(List U))):=
 (fun((l0,i1):((List U)×Int))=>
 bK (ah l0 (
 cj NN (fun(((i2,i3),l4):((Int×Int)×(List U)))=>
 au (bO i3 (aD (ab l4)))
 ((cN i3 (ab l4)).ae (fun k5=>
 (bQ l4 (av 0 k5)).ae (fun l6=>
 (bQ l4 (av 0 k5)).ae (fun l7=>
 (vL (l7,i2)).ae (fun(i8,l9)=>
 (bQ l4 (av 0 k5)).ae (fun bS=>
 (aO 0 (ab l4) (ab (bB l4 (av 0 k5) l9))).ae (fun _=>
 some (co ((i8,bo .i64 i3 1),bB l4 (av 0 k5) l9)))))))))
 (some (AI (co (i2,l4)))))
 ((i1,(0:Int)),l0)))
 (fun(dX,cB)=>
 (kq (ab cB) (ab l0)).ae (fun _=>
 some (dX,cB))))
def S4 (NN:Nat):((U×(U×U))×Int)->(Option (Int×(U×(U×U)))):=
 (fun(((l0,l1,l2),i3):((U×(U×U))×Int))=>
 ah l0 (
 (vL (l0,i3)).ae (fun(i4,l5)=>
 ah l1 (
 (vL (l1,i4)).ae (fun(i6,l7)=>
 ah l2 (
 (vL (l2,i6)).ae (fun(i8,l9)=>
 (kq (ab l5) (ab l0)).ae (fun _=>
 (kq (ab l7) (ab l1)).ae (fun _=>
 (kq (ab l9) (ab l2)).ae (fun _=>
 some (i8,l5,l7,l9)))))))))))
def S1 (NN:Nat):((Int×(List U))×Int)->(Option (Int×(List U))):=
 (fun(((i0,l1),i2):((Int×(List U))×Int))=>
 ah l1 (
 (GS (l1,i2)).ae (fun(i3,l4)=>
 (kq (ab l4) (ab l1)).ae (fun _=>
 some (i3,l4)))))
def SZ (NN:Nat):(U×Int)->(Option Int):=
 (fun((l0,i1):(U×Int))=>
 bK (cj NN (fun((l2,i3,i4):(U×(Int×Int)))=>
 au (bO i4 (aD (ab l2)))
 ((bF l2 i4).ae (fun i5=>
 au (fy i5 i3)
 (some (AI (AI ((-1:Int)))))
 (some (co (l2,bo .i64 i3 1,bo .i64 i4 1)))))
 (some (AI (co i3))))
 (l0,i1,(0:Int)))
 (fun i6=>
 some i6))
def S0 (NN:Nat):((U×(U×U))×Int)->(Option Int):=
 (fun(((l0,l1,l2),i3):((U×(U×U))×Int))=>
 (yB (l0,i3)).ae (fun i4=>
 au (bO i4 (0:Int))
 (some ((-1:Int)))
 ((yB (l1,i4)).ae (fun i5=>
 au (bO i5 (0:Int))
 (some ((-1:Int)))
 ((yB (l2,i5)).ae (fun i6=>
 au (bO i6 (0:Int))
 (some ((-1:Int)))
 (some i6)))))))
theorem apI (x:U×Int) (y:Int) (h:vM x=some y):S6 aN x=some y:=by obtain⟨l,k⟩:=x;simp only[vM] at h;split at h;rename_i c;obtain⟨⟨k0,k1⟩,b⟩:=c;have b:=of_decide_eq_true b;rw[<-h];have hn:=nl l;simp only[S6];rw[mT];show _=some (kF l.length k);by_cases a:(l.length:Int)<=k;rw[ZD a,aW dQ];rfl;rw[Nz a,aX dg];cases h
theorem apM (x y:U) (h:yD x=some y):S9 aN x=some y:=by simp only[yD] at h;split at h;rename_i hl;injection h with h;subst h;have hl:x.length<=1048576:=hl;simp only[S9,qH (n:=ab x) (by_:=8) (by simp only[ab,eD];omega),bm,uv,be,ah];rw[aci x 0 (r:=co x) ?_ ?_ (by omega)];simp only[io,iJ,bm];intro i e ys a hy b;simp only;rw[aX (ph a),cE,a,bm];simp only[Ot b,bm,f9,bQ,b,BK,be,tw a (by omega)];rfl;simp only;rw[aW (iQ x)];cases h
theorem apy (x:U×U) (y:Bool) (h:yA x=some y):aaf aN x=some y:=by obtain⟨a,b⟩:=x;simp only[yA] at h;split at h;rename_i hl;rw[<-h];have hl:a.length<=1048576:=hl;exact aof a b (by omega);cases h
theorem apJ (x:(List U)×Int) (y:Int) (h:GU x=some y):aah aN x=some y:=by obtain⟨l,k⟩:=x;simp only[GU] at h;split at h;rename_i d;obtain⟨b,a⟩:=d;unfold Kk at a;rw[AT,decide_eq_true_eq,zaf] at a;rw[<-h];exact aA1 vM fS l a.1 (fun e c k b=>aj ⟨b,a.2 e c⟩) k b;cases h
theorem R0 {l:List U} (h:tJ l<=1048576):l.length<=1048576/\∀e∈l,fS e<=1048576:=by unfold tJ at h;refine⟨by omega,fun e a=>?_⟩;have:=afQ (List.mem_map_of_mem (f:=fS) a);omega
theorem apN (x y:List U) (h:GV x=some y):Ta aN x=some y:=by simp only[GV] at h;split at h;rename_i hl;injection h with h;subst h;obtain⟨hl,hm⟩:=R0 hl;simp only[Ta,qH (n:=ab x) (by_:=24) (by simp only[ab,eD];omega),bm,uv,be,ah];rw[aci x [] (r:=co x) ?_ ?_ (by omega)];simp only[io,iJ,bm];rintro i e0 ys a hy b;simp only;rw[aX (ph a),cE,a,bm];simp only[yD,aj (hm _ (BY a)),Ot b,bm,f9,bQ,b,iJ,BK,be,tw a (by omega)];rfl;simp only;rw[aW (iQ x)];cases h
theorem apz (x:(List U)×(List U)) (y:Bool) (h:GR x=some y):aag aN x=some y:=by
 obtain⟨a,b⟩:=x;simp only[GR] at h;split at h
 ·rename_i hl;rw[<-h];obtain⟨hl,hm⟩:=R0 hl;exact abP yA a b (fun e c b=>show(if fS e<=1048576 then some (decide (e=b)) else none)=_ from aj (hm e c)) (by omega)
 ·cases h
theorem apK (x:(U×U×U)×Int) (y:Int) (h:Ch x=some y):S7 aN x=some y:=by obtain⟨⟨a,b,c⟩,k⟩:=x;simp only[Ch] at h;split at h;rename_i i;obtain⟨⟨k0,k1⟩,d⟩:=i;simp only[Gz,AT] at d;rw[<-h];simp only[S7];rw[RY (o:=vM (a,k)) (s:=fS a) (aj ⟨by constructor<;>omega,d.1.1⟩)];by_cases e:((fS a:Nat):Int)<=k;rw[aj e];rw[RY (o:=vM (b,k - fS a)) (s:=fS b) (aj ⟨by constructor<;>omega,d.1.2⟩)];by_cases g:((fS b:Nat):Int)<=k - fS a;rw[aj g];rw[RY (o:=vM (c,k - fS a - fS b)) (s:=fS c) (aj ⟨by constructor<;>omega,d.2⟩)];by_cases f:((fS c:Nat):Int)<=k - fS a - fS b;rw[aj f];show _=some (kF (fS a+fS b+fS c) k);rw[ZD (by omega)];exact congrArg some (by omega);rw[ak f];show _=some (kF (fS a+fS b+fS c) k);rw[Nz (by omega)];rw[ak g];show _=some (kF (fS a+fS b+fS c) k);rw[Nz (by omega)];rw[ak e];show _=some (kF (fS a+fS b+fS c) k);rw[Nz (by omega)];cases h
theorem apP (x y:U×U×U) (h:sL x=some y):Tb aN x=some y:=by obtain⟨c,a,b⟩:=x;simp only[sL] at h;split at h;rename_i hl;rw[<-h];simp only[iy] at hl;simp only[Tb,yD,aj (show fS c<=1048576 by omega),aj (show fS a<=1048576 by omega),aj (show fS b<=1048576 by omega),bm,iJ];cases h
theorem apA (x:(U×U×U)×(U×U×U)) (y:Bool) (h:tN x=some y):SY aN x=some y:=by obtain⟨⟨c,a,b⟩,b0,e,d⟩:=x;simp only[tN] at h;split at h;rename_i hl;rw[<-h];simp only[iy] at hl;simp only[SY,yA,aj (show fS c<=1048576 by omega),aj (show fS a<=1048576 by omega),aj (show fS b<=1048576 by omega),bm];by_cases e0:c=b0<;>by_cases e1:a=e<;>by_cases e2:b=d<;>simp[XQ,df,au, *];cases h
theorem apH (x:(Int×(List U))×Int) (y:Int) (h:Cg x=some y):S5 aN x=some y:=by obtain⟨⟨a0,a⟩,k⟩:=x;simp only[Cg] at h;split at h;rename_i d;obtain⟨⟨k0,k1⟩,c⟩:=d;simp only[Gy] at c;rw[<-h];simp only[S5];rw[RY (o:=GU (a,k)) (s:=tJ a) (aj ⟨by constructor<;>omega,c⟩)];by_cases b:((tJ a:Nat):Int)<=k;rw[aj b];show _=some (kF (tJ a) k);rw[ZD (by omega)];rw[ak b];show _=some (kF (tJ a) k);rw[Nz (by omega)];cases h
theorem apL (x y:Int×(List U)) (h:sK x=some y):S8 aN x=some y:=by obtain⟨a0,a⟩:=x;simp only[sK] at h;split at h;rename_i hl;rw[<-h];simp only[lk] at hl;simp only[S8,GV,aj (show tJ a<=1048576 by omega),bm,iJ];cases h
theorem apx (x:(Int×(List U))×(Int×(List U))) (y:Bool) (h:yz x=some y):SX aN x=some y:=by obtain⟨⟨c,a⟩,b0,b⟩:=x;simp only[yz] at h;split at h;rename_i hl;rw[<-h];simp only[lk] at hl;simp only[SX,GR,aj (show tJ a<=1048576 by omega),bm];by_cases e0:c=b0<;>by_cases e1:a=b<;>simp[XQ,df,au, *];cases h
theorem UH (x:U×U×U) (h:iy x<=1048576):tN (x,x)=some true:=by
 have:=show tN (x,x)=if iy x<=1048576 then some (decide (x=x)) else none from rfl
 rw[this,aj h,decide_eq_true rfl]
theorem alZ (x:U×U×U) (h:iy x<=1048576):sL x=some x:=aj h
theorem abQ (x:Int×(List U)) (h:lk x<=1048576):yz (x,x)=some true:=by
 have:=show yz (x,x)=if lk x<=1048576 then some (decide (x=x)) else none from rfl
 rw[this,aj h,decide_eq_true rfl]
theorem alY (x:Int×(List U)) (h:lk x<=1048576):sK x=some x:=aj h
theorem NA (l:U):fS l=l.length+(l.map (fun _=>0)).sum:=by simp[fS,alG]
theorem qh (l:U):bH l<=4*fS l:=by rw[NA];exact OA (fun _=>1) (fun _=>0) (fun e=>by omega) l
theorem aAz (l:U) (k:Int):fS (eo l k)=fS l:=by rw[NA,NA,eo,ME,Zz (fun _=>1) (fun _ k=>k) (fun _=>0) (fun _ _=>rfl)]
theorem anE (l:U) (k:Int):bH (eo l k)=bH l:=Zz (fun _=>1) (fun _ k=>k) (fun _=>1) (fun _ _=>rfl) l k
theorem avI (l:U) (k:Int):eo (eo l k) k=eo l k:=agm (fun _=>1) (fun _ k=>k) (fun _ _=>rfl) (fun _ _=>rfl) l k
theorem DB (l:U) (k:Int):(eo l k).length=l.length:=ME _ _ _ _
theorem apE (x:U×Int) (y:Int×U) (h:vL x=some y):S2 aN x=some y:=by obtain⟨l,k⟩:=x;simp only[vL] at h;split at h;rename_i d;obtain⟨f,b⟩:=d;rw[NA] at b;rw[<-h];simp only[S2,be,bm,ah];rw[af7 l (fun _=>1) (fun _=>0) (fun _ k=>k) k (r:=co (k+(bH l:Nat),eo l k)) (fun e=>by omega) f b ?_ ?_];rw[io];simp only;rw[rJ (show ab (eo l k)=ab l from DB l k),bm];intro i e ys k' he hy a h0 hM;have j:bQ ys i=some e:=a;simp only;rw[aX (ph a),tw a (by omega)];simp only[Ot a,bm,f9,j,BK,be];have c:bo .i64 k' 1=k'+1:=d6;simp only[c];rfl;simp only;rw[aW (dQ (by have:=DB l k;have g:=nl (eo l k);unfold eo at this g;omega))];rfl;cases h
theorem apB (x:U×Int) (y:Int) (h:yB x=some y):SZ aN x=some y:=by obtain⟨l,k⟩:=x;simp only[yB] at h;split at h;rename_i f;obtain⟨g,c⟩:=f;rw[NA] at c;rw[<-h];simp only[SZ];rw[aq0 l (fun _=>1) (fun _=>0) (fun _ k=>k) k (fun e=>by omega) g c ?_ ?_];unfold eo bH;by_cases a:l=kC (fun _=>1) (fun _ k=>k) l k;rw[aj a,aj a,io];rw[ak a,ak a,P6];intro i e k' b h0 hM;simp only;rw[aX (ph b),cE,b,bm];have d:bo .i64 k' 1=k'+1:=d6;rw[d,tw b (by omega)];by_cases a:e=k';rw[aW (me a),aj a];rfl;rw[aX (qJ a),ak a];intro k';simp only;rw[aW (iQ l)];cases h
theorem alM (l:List U):tJ l=l.length+(l.map fS).sum:=by rfl
theorem Uc (l:List U):q8 l<=4*tJ l:=by rw[alM];exact OA bH fS (fun e=>by have:=qh e;omega) l
theorem XA (l:List U) (k:Int):(yh l k).length=l.length:=ME _ _ _ _
theorem apF (x:(List U)×Int) (y:Int×(List U)) (h:GS x=some y):S3 aN x=some y:=by obtain⟨l,k⟩:=x;simp only[GS] at h;split at h;rename_i d;obtain⟨g,c⟩:=d;rw[alM] at c;rw[<-h];simp only[S3,be,bm,ah];rw[af7 l bH fS eo k (r:=co (k+(q8 l:Nat),yh l k)) (fun e=>by have:=qh e;omega) g c ?_ ?_];rw[io];simp only;rw[rJ (show ab (yh l k)=ab l from XA l k),bm];rintro i a ys k' he hy b h0 hM;have m:bQ ys i=some a:=b;simp only;rw[aX (ph b),tw b (by omega)];simp only[Ot b,bm,f9,m,BK,be];have aBA:=qh a;have f:vL (a,k')=some (k'+(bH a:Nat),eo a (k')):=aj ⟨by omega,by omega⟩;simp only[f,bm,Ph b,YW,BK,be];refine congrArg some (congrArg co (Prod.ext (Prod.ext ?_ rfl) rfl));simp only[bH];simp only;rw[aW (dQ (by have:=XA l k;have j:=nl (yh l k);unfold yh at this j;omega))];rfl;cases h
theorem aAA (x:U×U×U) (k:Int):iy (Qw x k)=iy x:=by obtain⟨a0,a1,a2⟩:=x;simp only[Qw,iy,aAz]
theorem apG (x:(U×U×U)×Int) (y:Int×U×U×U) (h:yC x=some y):S4 aN x=some y:=by obtain⟨⟨a,b,c⟩,k⟩:=x;simp only[yC] at h;split at h;rename_i g;obtain⟨hk,d⟩:=g;simp only[iy] at d;have ang:=qh a;have aaZ:=qh b;have anh:=qh c;rw[<-h];have e:vL (a,k)=some (k+(bH a:Nat),eo a (k)):=aj ⟨by omega,by omega⟩;have f:vL (b,k+(bH a:Nat))=some (k+(bH a:Nat)+(bH b:Nat),eo b (k+(bH a:Nat))):=aj ⟨by omega,by omega⟩;have i:vL (c,k+(bH a:Nat)+(bH b:Nat))=some (k+(bH a:Nat)+(bH b:Nat)+(bH c:Nat),eo c (k+(bH a:Nat)+(bH b:Nat))):=aj ⟨by omega,by omega⟩;simp only[S4,be,bm,e,f,i,rJ (show ab (eo a (k))=ab a from DB a (k)),rJ (show ab (eo b (k+(bH a:Nat)))=ab b from DB b (k+(bH a:Nat))),rJ (show ab (eo c (k+(bH a:Nat)+(bH b:Nat)))=ab c from DB c (k+(bH a:Nat)+(bH b:Nat))),ah];cases h
theorem apC (x:(U×U×U)×Int) (y:Int) (h:Af x=some y):S0 aN x=some y:=by
 obtain⟨⟨a,b,c⟩,k⟩:=x;simp only[Af] at h;split at h
 ·rename_i i;obtain⟨hk,l⟩:=i;simp only[iy] at l;have ang:=qh a;have aaZ:=qh b;have anh:=qh c;rw[<-h];have j:yB (a,k)=some (if a=eo a (k) then k+(bH a:Nat) else -1):=aj ⟨by omega,by omega⟩
  have g:yB (b,k+(bH a:Nat))=some (if b=eo b (k+(bH a:Nat)) then k+(bH a:Nat)+(bH b:Nat) else -1):=aj ⟨by omega,by omega⟩
  have m:yB (c,k+(bH a:Nat)+(bH b:Nat))=some (if c=eo c (k+(bH a:Nat)+(bH b:Nat)) then k+(bH a:Nat)+(bH b:Nat)+(bH c:Nat) else -1):=aj ⟨by omega,by omega⟩
  simp only[S0];rw[VO (by omega) j];by_cases f:a=eo a (k)
  case neg=>rw[ak f,ak (fun h=>f h.1)]
  rw[aj f];rw[VO (by omega) g];by_cases d:b=eo b (k+(bH a:Nat))
  case neg=>rw[ak d,ak (fun h=>d h.2.1)]
  rw[aj d];rw[VO (by omega) m];by_cases e:c=eo c (k+(bH a:Nat)+(bH b:Nat))
  case neg=>rw[ak e,ak (fun h=>e h.2.2)]
  rw[aj e];rw[aj ⟨f,d,e⟩]
 ·cases h
theorem apD (x:(Int×(List U))×Int) (y:Int×(List U)) (h:Cf x=some y):S1 aN x=some y:=by obtain⟨⟨a0,a⟩,k⟩:=x;simp only[Cf] at h;split at h;rename_i d;obtain⟨hk,b⟩:=d;simp only[lk] at b;have aaZ:=Uc a;rw[<-h];have c:GS (a,k)=some (k+(q8 a:Nat),yh a (k)):=aj ⟨by omega,by omega⟩;simp only[S1,be,bm,c,rJ (show ab (yh a (k))=ab a from XA a (k)),ah];cases h
theorem aqY (x:U×U×U) (k:Int) (h:0<=k/\k+4*(iy x:Nat)<=1099511627776):Af (Qw x k,k)=some (match x with|(a,b,c)=>k+(bH a:Nat)+(bH b:Nat)+(bH c:Nat)):=by
 obtain⟨a,b,c⟩:=x;have:=show Af ((eo a (k),eo b (k+(bH a:Nat)),eo c (k+(bH a:Nat)+(bH b:Nat))),k)=if 0<=k/\k+4*(iy (Qw (a,b,c) k):Nat)<=1099511627776 then some (if eo a (k)=eo (eo a (k)) (k)/\eo b (k+(bH a:Nat))=eo (eo b (k+(bH a:Nat))) (k+(bH (eo a (k)):Nat))/\eo c (k+(bH a:Nat)+(bH b:Nat))=eo (eo c (k+(bH a:Nat)+(bH b:Nat))) (k+(bH (eo a (k)):Nat)+(bH (eo b (k+(bH a:Nat))):Nat)) then k+(bH (eo a (k)):Nat)+(bH (eo b (k+(bH a:Nat))):Nat)+(bH (eo c (k+(bH a:Nat)+(bH b:Nat))):Nat) else -1) else none from rfl
 refine this.trans ?_;rw[aAA,aj h];simp only[avI,anE,and_self,if_true]
def adT (r c:Nat) (M:Nat->Nat->Int):U:=(zal (r*c)).map fun n=>M (n/c) (n%c)
def ofD (c:Nat) (l:U):Nat->Nat->Int:=fun i j=>l.getD (i*c+j) 0
theorem azA {a p:Int} (b:0<=a) (hp:0<p):hZ a p=some (a%p):=by unfold hZ;rw[ak (by omega),zaZ b]
theorem avz {i n:Nat} (h:i<n):bO (i:Int) (n:Int)=true:=dg
theorem Jh {i n:Nat} (h:n<=i):bO (i:Int) (n:Int)=false:=dQ
theorem je {i:Nat} (h:i<=1048577:=by omega):bo .i64 (i:Int) 1=((i+1:Nat):Int):=by rw[d6];omega
def tz (p:Int):Prop:=2<=p/\p<=1000003
instance (p:Int):Decidable (tz p):=inferInstanceAs (Decidable (2<=p/\p<=1000003))
def vl (p x:Int):Prop:=0<=x/\x<p
instance (p x:Int):Decidable (vl p x):=inferInstanceAs (Decidable (0<=x/\x<p))
theorem UD {p:Int} (b:tz p) (a:Int):vl p (a%p):=⟨zai _ (by have:=b.1;omega),zaa _ (by have:=b.1;omega)⟩
theorem vl.le {p x:Int} (h:vl p x):0<=x/\x<=p:=⟨h.1,Int.le_of_lt h.2⟩
theorem vl.s {p x:Int} (a:tz p) (h:vl p x):0<=x/\x<=1000003000000:=⟨h.1,by have:=h.2;have:=a.2;omega⟩
def vk (p:Int) (r c:Nat) (M:Nat->Nat->Int):Prop:=∀i,i<r->∀j,j<c->vl p (M i j)
def uP (p:Int) (l:U):Prop:=∀x∈l,vl p x
instance (p:Int) (l:U):Decidable (uP p l):=inferInstanceAs (Decidable (∀x∈l,vl p x))
def FQ (x:Int×Int×U):Prop:=(0<=x.1/\x.1<=4096)/\(0<=x.2.1/\x.2.1<=4096)/\(x.2.2.length:Int)=x.1*x.2.1/\x.2.2.length<=1048576
instance (x:Int×Int×U):Decidable (FQ x):=by unfold FQ;infer_instance
def nY:Int×Int×Int->Option Bool:=fun((a,b,c):Int×Int×Int)=>some (decide (b<=a/\a<=c))
def Tj (NN:Nat):(Int×(Int×Int))->(Option Bool):=
 (fun((i0,i1,i2):(Int×(Int×Int)))=>
 au (fR i1 i0)
 (some (fR i0 i2))
 (some false))
theorem apZ (x:Int×Int×Int) (y:Bool) (h:nY x=some y):Tj aN x=some y:=by obtain⟨a,b,c⟩:=x;rw[<-h];simp only[nY,Tj,fR];by_cases d:b<=a<;>simp[d,au]
def vU (n:Int) (i:Nat):Bool:=decide ((i:Int)*i<=n)&&decide (n%(i:Int)=0)
def jY (n:Int):Bool:=decide (2<=n/\n<=1000003)&& !((zaW 2 999).any (vU n))
def Cj:Int->Option Bool:=fun(n:Int)=>some (jY n)
def B9:Int->Option Bool:=fun(n:Int)=>some (jY n)
def Dk (m:Int) (v:Int):Bool:=decide (0<=v/\v<m)
def vy (m:Int) (l:U):Bool:=l.all (Dk m)
def Ep:Int×U->Option Bool:=fun((m,l):Int×U)=>if l.length<=1048576 then some (vy m l) else none
def Tf (NN:Nat):Int->(Option Bool):=
 (fun(i0:Int)=>
 bK (cj NN (fun((i1,i2):(Int×Int))=>
 au (fR (f6 .i64 i2 i2) i1)
 (au (fR i1 (1000003:Int))
 ((hZ i1 i2).ae (fun i3=>
 au (cu i3 (0:Int))
 (some (AI (AI false)))
 (some (co (i1,bo .i64 i2 1)))))
 (some (AI (co i1))))
 (some (AI (co i1))))
 (i0,(2:Int)))
 (fun i4=>
 (nY (i4,(2:Int),(1000003:Int))).ae (fun b5=>
 some b5)))
def Sr (NN:Nat):Int->(Option Bool):=
 (fun(i0:Int)=>
 au (bO i0 (2:Int))
 (some false)
 (au (bO (1000003:Int) i0)
 (some false)
 (bK (cj NN (fun((i1,i2):(Int×Int))=>
 au (fR (f6 .i64 i2 i2) i1)
 ((hZ i1 i2).ae (fun i3=>
 au (cu i3 (0:Int))
 (some (AI (AI false)))
 (some (co (i1,bo .i64 i2 1)))))
 (some (AI (co ()))))
 (i0,(2:Int)))
 (fun _=>
 some true))))
def SH (NN:Nat):(Int×U)->(Option Bool):=
 (fun((i0,l1):(Int×U))=>
 bK (cj NN (fun((i2,l3,i4,i5):(Int×(U×(Int×Int))))=>
 au (bO i5 i4)
 ((bF l3 i5).ae (fun i6=>
 au (bO i6 (0:Int))
 (some (AI (AI false)))
 (au (fR i2 i6)
 (some (AI (AI false)))
 (some (co (i2,l3,i4,bo .i64 i5 1))))))
 (some (AI (co ()))))
 (i0,l1,aD (ab l1),(0:Int)))
 (fun _=>
 some true))
theorem rE {a b:Int} (d: -9223372036854775808<=a*b:=by omega) (c:a*b<=9223372036854775807:=by omega):f6 .i64 a b=a*b:=Sl d c
theorem M3 {n:Int} {i:Nat} (hn:0<=n:=by omega) (hi:0<i:=by omega):hZ n (i:Int)=some (n%(i:Int)):=by unfold hZ;rw[ak (by omega),zaZ hn]
theorem Zh {i j:Nat} (h:i<=j):(i:Int)*i<=(j:Int)*j:=by have:=zaC h h;exact_mod_cast this
theorem abF {X Y:Type} {f:X->Option (X⊕(Y⊕Bool))} (n:Int) (mk:Nat->X) (r:Y) (hn:n<=1000003)
  (g:∀i:Nat,2<=i->i<=1001->(i:Int)*i<=n->n%(i:Int)=0->f (mk i)=some (.inr (.inr false)))
  (p:∀i:Nat,2<=i->i<=1001->(i:Int)*i<=n->n%(i:Int)≠0->f (mk i)=some (.inl (mk (i+1))))
  (e:∀i:Nat,2<=i->i<=1001->¬(i:Int)*i<=n->f (mk i)=some (.inr (.inl r))) {c:X} (hx:c=mk 2):
  cj aN f c=some (if(zaW 2 999).any (vU n)=true then .inr false else .inl r):=by
 subst hx;have m:∀(d i:Nat),2<=i->i+d=1001->∀N,d<N->cj N f (mk i)=some (if(zaW i d).any (vU n)=true then .inr false else .inl r):=by
  intro d;induction d with
  |zero=>
   intro i b hd N o;obtain⟨N,rfl⟩:∃M,N=M+1:=⟨N - 1,by omega⟩;have:i=1001:=by omega
   subst this;rw[cj,e 1001 (by omega) (by omega) (by omega)];rfl
  |succ d k=>
   intro i b hd N o;obtain⟨N,rfl⟩:∃M,N=M+1:=⟨N - 1,by omega⟩;rw[List.range'_succ,List.any_cons];by_cases a:(i:Int)*i<=n
   ·by_cases hm:n%(i:Int)=0
    ·rw[cj,g i b (by omega) a hm];simp[vU,a,hm]
    ·rw[cj,p i b (by omega) a hm];simp only
     rw[k (i+1) (by omega) (by omega) N (by omega),show vU n i=false by simp[vU,hm],Bool.false_or]
   ·rw[cj,e i b (by omega) a];have:(zaW (i+1) d).any (vU n)=false:=by
     rw[zbx];intro j l;have:=(List.mem_range'_1.1 l).1;have:=Zh (show i<=j by omega);simp only[vU,AT,decide_eq_true_eq,not_and];intro h;omega
    simp only
    rw[this];simp[vU,a]
 exact m 999 2 (by omega) (by omega) aN dE
theorem J0 {i:Nat} (h:i<=1001):0<=(i:Int)*i/\(i:Int)*i<=1002001:=by have h1:=Zh h;have h0:=Zh (zbm i);omega
theorem apU (x:Int) (y:Bool) (h:Cj x=some y):Tf aN x=some y:=by rw[<-h];simp only[Cj,Tf];by_cases hx:x<=1000003;(·rw[abF x (fun i=>(x,(i:Int))) x hx ?_ ?_ ?_ ?_];by_cases hd:(zaW 2 999).any (vU x)=true;rw[aj hd,P6,jY,hd];simp;rw[ak hd,io,jY];simp only[nY,bm];simp[hd];(all_goals try simp only);intro i c a b hm;have d:=J0 a;rw[rE,aX (lc b),aX (lc hx),M3,bm,aX (uV hm)];intro i c a b hm;have d:=J0 a;rw[rE,aX (lc b),aX (lc hx),M3,bm,aW (nw hm),d6];rfl;intro i c a b;have d:=J0 a;rw[rE,aW zM];rfl);rw[eR (fun i=>(x,(i:Int)+2)) (r:=co x) 0 (fun j hj=>by omega) ?_ ?_ dE];rw[io,jY];simp only[nY,bm];have:¬(2<=x/\x<=1000003):=(by omega);simp[this];simp only;rw[aX (lc (by rw[rE];omega)),aW zM];rfl
theorem ao0 (x:Int) (y:Bool) (h:B9 x=some y):Sr aN x=some y:=by rw[<-h];simp only[B9,Sr];by_cases b:x<2;rw[aX (dg b),jY,decide_eq_false (by omega)];rfl;rw[aW dQ];by_cases hx:1000003<x;rw[aX (dg hx),jY,decide_eq_false (by omega)];rfl;rw[aW dQ];rw[abF x (fun i=>(x,(i:Int))) () (by omega) ?_ ?_ ?_ ?_];have hr:(2<=x/\x<=1000003):=(by omega);by_cases hd:(zaW 2 999).any (vU x)=true;rw[aj hd,P6,jY,hd];simp;rw[ak hd,io,jY];simp[hd,hr];(all_goals try simp only);intro i b a c hm;have d:=J0 a;rw[rE,aX (lc c),M3,bm,aX (uV hm)];intro i b a c hm;have d:=J0 a;rw[rE,aX (lc c),M3,bm,aW (nw hm),d6];rfl;intro i b a c;have d:=J0 a;rw[rE,aW zM];rfl
theorem apf (x:Int×U) (y:Bool) (h:Ep x=some y):SH aN x=some y:=by obtain⟨m,l⟩:=x;simp only[Ep] at h;split at h;(·rename_i hl;rw[<-h];simp only[SH];rw[FM (mk:=fun i=>(m,l,aD (ab l),(i:Int))) l (Dk m) (AI false) (co ()) ?_ ?_ ?_ ?_ dE];unfold vy;cases l.all (Dk m)<;>rfl;(all_goals try simp only);intro i a b c;have c:=of_decide_eq_true c;rw[aX (ph b),cE,b,bm,aW dQ,aW zM,tw b (by omega)];intro i a b c;have c:=of_decide_eq_false c;rw[aX (ph b),cE,b,bm];by_cases d:a<0;rw[aX (dg d)];rw[aW dQ,aX lc];rw[aW (iQ l)];rfl);cases h
theorem m8 {m:Int} (h:jY m=true):2<=m/\m<=1000003:=by simp only[jY,AT,decide_eq_true_eq] at h;exact h.1
def fp:U->Int
 |[]=>1
 |x::l=>x*fp l
def EG (oE:Int) (_:Nat) (a x:Int):Int:=min (a*x) (oE+1)
def Ax (oE:Int) (l:U):Int:=y4 (EG oE) 0 1 l
def aAw (x:Int):Bool:=decide (0<=x/\x<=1048576)
def pC:U×Int->Option Int:=fun((l,oE):U×Int)=>if(0<=oE/\oE<=1048576)/\l.length<=1048576/\l.all aAw=true then some (Ax oE l) else none
def Tt (NN:Nat):(U×Int)->(Option Int):=
 (fun((l0,i1):(U×Int))=>
 bK (cj NN (fun((i2,i3,l4,i5,i6):(Int×(Int×(U×(Int×Int)))))=>
 au (bO i6 i5)
 ((bF l4 i6).ae (fun i7=>
 some (co (i2,iM (f6 .i64 i3 i7) (bo .i64 i2 1),l4,i5,bo .i64 i6 1))))
 (some (AI (co i3))))
 (i1,(1:Int),l0,aD (ab l0),(0:Int)))
 (fun i8=>
 some i8))
theorem XP {a x A B:Int} (e:0<=a) (d:a<=A) (b:0<=x) (c:x<=B):0<=a*x/\a*x<=A*B:= ⟨za5 e b,zav d c b (by omega)⟩
theorem aqd (x:U×Int) (y:Int) (h:pC x=some y):Tt aN x=some y:=by obtain⟨l,b⟩:=x;simp only[pC] at h;split at h;(·rename_i e;obtain⟨aeh,hl,f⟩:=e;rw[<-h];simp only[Tt];rw[avu l (fun(a:Int) i=>(b,a,l,aD (ab l),(i:Int))) (fun _ a=>0<=a/\a<=b+1) (EG b) (fun a=>co a) ?_ ?_ (s:=1) ⟨by omega,by omega⟩ ?_ dE];rfl;(all_goals try simp only);intro i a x hx d;have c:=of_decide_eq_true (zaf.1 f x (BY hx));obtain⟨b1,b2⟩:=XP d.1 (show a<=1048577 by omega) c.1 c.2;rw[aX (ph hx),cE,hx,bm,rE,d6 (a:=b) (by omega) (by omega),wH,tw hx (by omega)];refine⟨rfl,?_⟩;unfold EG;omega;intro a _;rw[aW (iQ l)];rfl);cases h
theorem Jw:∀{l:U},(∀x∈l,1<=x)->1<=fp l
 |[],_=>by simp[fp]
 |x::l,h=>by have b:=h x zaF;have a:=Jw (l:=l) (fun x hx=>h x (zar _ hx));have:=zav b a (by omega) (by omega);simpa[fp] using this
theorem KO {b:Int} (d:0<=b):∀(l:U) (i:Nat) (a:Int),(∀x∈l,1<=x)->1<=a->a<=b+1->y4 (EG b) i a l=min (a*fp l) (b+1)
 |[],i,a,_,_,h2=>by simp only[y4,fp,zbJ];omega
 |x::l,i,a,h,h1,h2=>by have hx:=h x zaF;have f:=Jw (l:=l) (fun x hx=>h x (zar _ hx));have za:=zav h1 hx (by omega) (by omega);rw[y4,KO d l (i+1) _ (fun x hx=>h x (zar _ hx)) (by unfold EG;omega) (by unfold EG;omega),fp,<-zaV];unfold EG;generalize a*x=c at*;by_cases g:c<=b+1;rw[zbK g];have e:min c (b+1)=b+1:=(by omega);rw[e];have k1:=zag f (show 0<=b+1 by omega);have k2:=zag f (show 0<=c by omega);omega
def bh (l:U) (v:Int):Nat:=l.findIdx fun a=>decide (a=v)
def jU (l:U) (v:Int):Int:=if bh l v<l.length then(bh l v:Int) else -1
def mW:U×Int->Option Int:=fun(x:U×Int)=>if x.1.length<=1048576 then some (jU x.1 x.2) else none
def uI:U×Int->Option Bool:=fun(x:U×Int)=>if x.1.length<=1048576 then some (decide (x.2∈x.1)) else none
def Ho (L D:U) (j:Nat):Prop:=(0<=L.getD j 0/\L.getD j 0<=99)/\(1<=D.getD j 0/\D.getD j 0<=8)/\L.getD j 0∉L.take j
instance (L D:U) (j:Nat):Decidable (Ho L D j):=by unfold Ho;infer_instance
def ly (L D:U):Bool:=decide (L.length<=12)&&(decide (L.length=D.length)&&decide (∀j,j<L.length->Ho L D j))
def fg (L D:U):Int:=if ly L D=true/\fp D<=4096 then fp D else -1
def G0:U×U->Option Bool:=fun(x:U×U)=>if x.1.length<=1048576/\x.2.length<=1048576 then some (ly x.1 x.2) else none
def rL:U×U×U->Option Int:=fun(x:U×U×U)=>if x.1.length<=1048576/\x.2.1.length<=1048576 then some (fg x.1 x.2.1) else none
def tL:U×U×U->Option Int:=rL
def KT (m:Int) (D:U) (R:List U) (j:Nat):Prop:=((R.getD j []).length:Int)=D.getD j 0/\vy m (R.getD j [])=true
instance (m:Int) (D:U) (R:List U) (j:Nat):Decidable (KT m D R j):=by unfold KT;infer_instance
def mY (x:(U×U×U)×Int×List U):Bool:=
 decide (0<=fg x.1.1 x.1.2.1)&&(decide (1<=x.2.1/\x.2.1<=12)&&(decide (x.2.2.length=x.1.2.1.length)&&decide (∀j,j<x.2.2.length->KT x.2.1 x.1.2.1 x.2.2 j)))
def Hw (x:(U×U×U)×Int×List U):Prop:=(x.1.1.length<=1048576/\x.1.2.1.length<=1048576)/\x.2.2.length<=1048576/\∀l∈x.2.2,l.length<=1048576
instance (x:(U×U×U)×Int×List U):Decidable (Hw x):=by unfold Hw;infer_instance
def Ci:(U×U×U)×Int×List U->Option Bool:=fun(x:(U×U×U)×Int×List U)=>if Hw x then some (mY x) else none
def GF:(U×U×U)×Int×List U->Option Bool:=Ci
def To (NN:Nat):(U×Int)->(Option Int):=
 (fun((l0,i1):(U×Int))=>
 bK (cj NN (fun((i2,l3,i4,i5):(Int×(U×(Int×Int))))=>
 au (bO i5 i4)
 ((bF l3 i5).ae (fun i6=>
 au (cu i6 i2)
 (some (AI (AI i5)))
 (some (co (i2,l3,i4,bo .i64 i5 1)))))
 (some (AI (co ()))))
 (i1,l0,aD (ab l0),(0:Int)))
 (fun _=>
 some ((-1:Int))))
def Tm (NN:Nat):(U×U)->(Option Bool):=
 (fun((l0,l1):(U×U))=>
 au (bO (12:Int) (aD (ab l0)))
 (some false)
 (au (fy (aD (ab l0)) (aD (ab l1)))
 (some false)
 (bK (cj NN (fun((l2,l3,l4,i5,i6):(U×(U×(U×(Int×Int)))))=>
 au (bO i6 i5)
 ((bF l4 i6).ae (fun i7=>
 (nY (i7,(0:Int),(99:Int))).ae (fun b8=>
 au (df b8)
 (some (AI (AI false)))
 ((bF l3 i6).ae (fun i9=>
 (nY (i9,(1:Int),(8:Int))).ae (fun qf=>
 au (df qf)
 (some (AI (AI false)))
 ((jB (0:Int) i6 (ab l2)).ae (fun(ou,uj)=>
 (mW (fU l2 ou uj,i7)).ae (fun fG=>
 au (fR (0:Int) fG)
 (some (AI (AI false)))
 (some (co (l2,l3,l4,i5,bo .i64 i6 1))))))))))))
 (some (AI (co ()))))
 (l0,l1,l0,aD (ab l0),(0:Int)))
 (fun _=>
 some true))))
def Ti (NN:Nat):(U×(U×U))->(Option Int):=
 (fun((l0,l1,l2):(U×(U×U)))=>
 (G0 (l0,l1)).ae (fun b3=>
 au (df b3)
 (some ((-1:Int)))
 ((pC (l1,(4096:Int))).ae (fun i4=>
 au (bO (4096:Int) i4)
 (some ((-1:Int)))
 (some i4)))))
def Tc (NN:Nat):((U×(U×U))×(Int×(List U)))->(Option Bool):=
 (fun(((l0,l1,l2),i3,l4):((U×(U×U))×(Int×(List U))))=>
 (rL (l0,l1,l2)).ae (fun i5=>
 au (bO i5 (0:Int))
 (some false)
 ((nY (i3,(1:Int),(12:Int))).ae (fun b6=>
 au (df b6)
 (some false)
 (au (fy (aD (ab l4)) (aD (ab l1)))
 (some false)
 (bK (cj NN (fun(((l7,i8,i9),fO,cZ):((U×(Int×Int))×(Int×(List U))))=>
 au (bO i9 i8)
 (bK ((bF l7 i9).ae (fun eC=>
 (bF cZ i9).ae (fun cM=>
 au (fy (aD (ab cM)) eC)
 (some (AI (AI (AI false))))
 ((bF cZ i9).ae (fun cO=>
 cj NN (fun(((dk,fH,gA,d7,kV,fw),fP,dP):((U×(Int×(Int×(U×(Int×Int)))))×(Int×(List U))))=>
 au (bO fw kV)
 ((bF d7 fw).ae (fun gT=>
 (nY (gT,(0:Int),iw .i64 fP 1)).ae (fun b24=>
 au (df b24)
 (some (AI (AI (AI (AI false)))))
 (some (co ((dk,fH,gA,d7,kV,bo .i64 fw 1),fP,dP))))))
 (some (AI (co ((gA,dk,fH),fP,dP)))))
 ((l7,i8,i9,cO,aD (ab cO),(0:Int)),fO,cZ))))))
 (fun((oe,gj,jX),lW,gK)=>
 some (co ((gj,jX,bo .i64 oe 1),lW,gK))))
 (some (AI (co ()))))
 ((l1,aD (ab l1),(0:Int)),i3,l4))
 (fun _=>
 some true)))))))
def SG (NN:Nat):(U×Int)->(Option Bool):=
 (fun((l0,i1):(U×Int))=>
 bK (cj NN (fun((i2,l3,i4,i5):(Int×(U×(Int×Int))))=>
 au (bO i5 i4)
 ((bF l3 i5).ae (fun i6=>
 au (cu i2 i6)
 (some (AI (AI true)))
 (some (co (i2,l3,i4,bo .i64 i5 1)))))
 (some (AI (co ()))))
 (i1,l0,aD (ab l0),(0:Int)))
 (fun _=>
 some false))
def Sv (NN:Nat):(U×(U×U))->(Option Int):=
 (fun((l0,l1,l2):(U×(U×U)))=>
 au (bO (12:Int) (aD (ab l0)))
 (some ((-1:Int)))
 (au (fy (aD (ab l0)) (aD (ab l1)))
 (some ((-1:Int)))
 (bK (cj NN (fun(((i3,l4,i5,i6),l7,l8,l9):((Int×(U×(Int×Int)))×(U×(U×U))))=>
 au (bO i6 i5)
 ((bF l4 i6).ae (fun fO=>
 au (bO fO (0:Int))
 (some (AI (AI ((-1:Int)))))
 (au (bO (99:Int) fO)
 (some (AI (AI ((-1:Int)))))
 ((jB (0:Int) i6 (ab l7)).ae (fun(ou,uj)=>
 (uI (fU l7 ou uj,fO)).ae (fun As=>
 au (As)
 (some (AI (AI ((-1:Int)))))
 ((bF l8 i6).ae (fun gf=>
 au (bO gf (1:Int))
 (some (AI (AI ((-1:Int)))))
 (au (bO (8:Int) gf)
 (some (AI (AI ((-1:Int)))))
 (au (bO (4096:Int) (f6 .i64 i3 gf))
 (some (AI (AI ((-1:Int)))))
 (some (co ((f6 .i64 i3 gf,l4,i5,bo .i64 i6 1),l7,l8,l9)))))))))))))
 (some (AI (co i3))))
 (((1:Int),l0,aD (ab l0),(0:Int)),l0,l1,l2))
 (fun iG=>
 some iG))))
def Sp (NN:Nat):((U×(U×U))×(Int×(List U)))->(Option Bool):=
 (fun(((l0,l1,l2),i3,l4):((U×(U×U))×(Int×(List U))))=>
 (tL (l0,l1,l2)).ae (fun i5=>
 au (cu i5 ((-1:Int)))
 (some false)
 (au (bO i3 (1:Int))
 (some false)
 (au (bO (12:Int) i3)
 (some false)
 (au (fy (aD (ab l4)) (aD (ab l1)))
 (some false)
 (bK (cj NN (fun(((l6,i7,i8),(l9,bS,cZ),eC,cM):(((List U)×(Int×Int))×((U×(U×U))×(Int×(List U)))))=>
 au (bO i8 i7)
 ((bF l6 i8).ae (fun cO=>
 (bF bS i8).ae (fun iG=>
 au (fy (aD (ab cO)) iG)
 (some (AI (AI false)))
 ((Ep (eC,cO)).ae (fun b16=>
 au (df b16)
 (some (AI (AI false)))
 (some (co ((l6,i7,bo .i64 i8 1),(l9,bS,cZ),eC,cM))))))))
 (some (AI (co ()))))
 ((l4,aD (ab l4),(0:Int)),(l0,l1,l2),i3,l4))
 (fun _=>
 some true)))))))
theorem Ed (P:Nat->Prop) [DecidablePred P]:∀c:Nat,∃n,n<=c/\(∀j,j<n->P j)/\(n=c\/¬P n)
 |0=>⟨0,IT 0,fun j d=>absurd d (zbL j),.inl rfl⟩
 |c+1=>by obtain⟨n,h1,b,a⟩:=Ed P c;by_cases h:P n;rcases a with a|a;subst a;refine⟨n+1,IT _,fun j d=>?_,.inl rfl⟩;by_cases e:j=n;subst e;exact h;exact b j (by omega);exact absurd h a;exact⟨n,by omega,b,.inr h⟩
theorem getD_some {α:Type} {l:List α} {j:Nat} (d:α) (h:j<l.length):l[j]? =some (l.getD j d):=by simp[zbV,h]
theorem wE {α:Type} {l:List α} {j:Nat} (h:j<l.length):bO (j:Int) (aD (ab l))=true:=avz h
theorem Jv {l:U} {v:Int} {j:Nat} (h:j<bh l v):l[j]? ≠some v:=by intro e;have a:j<l.length:=(OF.1 e).1;have:=List.not_of_lt_findIdx h;rw[wt a] at e;simp[zbd e] at this
theorem Ju {l:U} {v:Int} (h:bh l v<l.length):l[bh l v]? =some v:=by have:=List.findIdx_getElem (w:=h);rw[wt h];exact congrArg some (of_decide_eq_true this)
theorem MS (l:U) (v:Int):bh l v<=l.length:=List.findIdx_le_length
theorem UQ (l:U) (v:Int):fR 0 (jU l v)=decide (v∈l):=by unfold jU fR;by_cases h:bh l v<l.length;rw[aj h,decide_eq_true (by omega),decide_eq_true];exact BY (Ju h);rw[ak h,decide_eq_false (by omega),decide_eq_false];intro hm;obtain⟨i,a,e⟩:=zaR.1 hm;have:=MS l v;exact Jv (show i<bh l v by omega) (by rw[wt a,e])
theorem ap9 (x:U×Int) (y:Int) (h:mW x=some y):To aN x=some y:=by
 obtain⟨l,v⟩:=x;simp only[mW] at h;split at h
 ·rename_i hl;rw[<-h];simp only[To];have hp:=MS l v;rw[eR (fun i=>(v,l,aD (ab l),(i:Int))) (r:=if bh l v<l.length then AI (bh l v:Int) else co ()) (bh l v) ?_ ?_ ?_ dE]
  ·unfold jU;by_cases h:bh l v<l.length
   ·rw[aj h,aj h];rfl
   ·rw[ak h,ak h];rfl
  ·intro j b;simp only
   have a:j<l.length:=by omega
   rw[aX (wE a),cE,getD_some 0 a,bm,aW (nw (fun e=>Jv b (by rw[getD_some 0 a,e])))];simp only[je (show j<=1048577 by omega)]
  ·simp only
   by_cases h:bh l v<l.length
   ·rw[aj h,aX (wE h),cE,Ju h,bm,aX (uV rfl)]
   ·rw[ak h,aW (show bO _ (aD (ab l))=false from Jh (by show l.length<=_;omega))]
  ·rfl
 ·cases h
theorem ape (x:U×Int) (y:Bool) (h:uI x=some y):SG aN x=some y:=by
 obtain⟨l,v⟩:=x;simp only[uI] at h;split at h
 ·rename_i hl;rw[<-h];simp only[SG];have hp:=MS l v;rw[eR (fun i=>(v,l,aD (ab l),(i:Int))) (r:=if bh l v<l.length then AI true else co ()) (bh l v) ?_ ?_ ?_ dE]
  ·rw[<-UQ l v];unfold jU fR;by_cases h:bh l v<l.length
   ·rw[aj h,aj h,decide_eq_true (by omega)];rfl
   ·rw[ak h,ak h];rfl
  ·intro j b;simp only
   have a:j<l.length:=by omega
   rw[aX (wE a),cE,getD_some 0 a,bm,aW (nw (fun e=>Jv b (by rw[getD_some 0 a,e])))];simp only[je (show j<=1048577 by omega)]
  ·simp only
   by_cases h:bh l v<l.length
   ·rw[aj h,aX (wE h),cE,Ju h,bm,aX (uV rfl)]
   ·rw[ak h,aW (show bO _ (aD (ab l))=false from Jh (by show l.length<=_;omega))]
  ·rfl
 ·cases h
theorem RB {n m:Nat} (h:n<=m):jB 0 (n:Int) m=some (0,n):=by unfold jB;rw[aj ⟨by omega,by omega,by omega⟩];simp
theorem Rz (l:U) (n:Nat):fU l 0 n=l.take n:=rfl
theorem ap7 (x:U×U) (y:Bool) (h:G0 x=some y):Tm aN x=some y:=by
 obtain⟨L,D⟩:=x;simp only[G0] at h;split at h
 ·rename_i hl;rw[<-h];simp only[Tm,ly];by_cases e:L.length<=12
  rotate_left
  ·rw[aX (dg (by rw[nl];omega)),decide_eq_false e];rfl
  rw[aW (dQ (by rw[nl];omega)),decide_eq_true e,zac];by_cases l:L.length=D.length
  rotate_left
  ·rw[aX (qJ (by rw[nl,nl];omega)),decide_eq_false l];rfl
  rw[aW (me (by rw[nl,nl];omega)),decide_eq_true l,zac];obtain⟨n,hn,k,f⟩:=Ed (Ho L D) L.length;rw[eR (fun i=>(L,D,L,aD (ab L),(i:Int))) (r:=if n<L.length then AI false else co ()) n ?_ ?_ ?_ dE]
  ·by_cases h:n<L.length
   ·rw[aj h,decide_eq_false (fun q=>(f.resolve_left (by omega)) (q n h))];rfl
   ·rw[ak h,decide_eq_true (fun j g=>k j (by omega))];rfl
  ·intro j g;simp only
   obtain⟨a,b,c⟩:=k j g;have d:j<L.length:=by omega
   rw[aX (wE d),cE,getD_some 0 d,bm];simp only[nY,bm];rw[aW (FU a),cE,getD_some 0 (show j<D.length by omega),bm];rw[aW (FU b),RB (show j<=ab L by show j<=L.length;omega),bm];simp only[Rz];rw[show mW (L.take j,L.getD j 0)=some (jU (L.take j) (L.getD j 0)) from aj (by rw[IN];omega),bm,UQ,aW (decide_eq_false c)]
   simp only[je (show j<=1048577 by omega)]
  ·simp only
   by_cases h:n<L.length
   ·have m:=f.resolve_left (by omega);rw[aj h,aX (wE h),cE,getD_some 0 h,bm];simp only[nY,bm];by_cases a:0<=L.getD n 0/\L.getD n 0<=99
    rotate_left
    ·rw[aX (MK a)]
    rw[aW (FU a),cE,getD_some 0 (show n<D.length by omega),bm];by_cases b:1<=D.getD n 0/\D.getD n 0<=8
    rotate_left
    ·rw[aX (MK b)]
    rw[aW (FU b),RB (show n<=ab L by show n<=L.length;omega),bm];simp only[Rz];rw[show mW (L.take n,L.getD n 0)=some (jU (L.take n) (L.getD n 0)) from aj (by rw[IN];omega),bm,UQ]
    by_cases c:L.getD n 0∈L.take n
    ·rw[aX (decide_eq_true c)]
    ·exact absurd ⟨a,b,c⟩ m
   ·rw[ak h,aW (show bO _ (aD (ab L))=false from Jh (by show L.length<=_;omega))]
  ·rfl
 ·cases h
theorem gH {L D:U} (h:ly L D=true):L.length<=12/\L.length=D.length/\∀j,j<L.length->Ho L D j:=by simp only[ly,AT,decide_eq_true_eq] at h;exact h
theorem qU {L D:U} (h:ly L D=true):∀x∈D,1<=x/\x<=8:=by obtain⟨_,h2,c⟩:=gH h;intro x hx;obtain⟨i,b,e⟩:=zaR.1 hx;have:=(c i (by omega)).2.1;have a:=getD_some 0 b;rw[wt b,e] at a;rw[<-zbd a] at this;exact this
theorem apY (x:U×U×U) (y:Int) (h:rL x=some y):Ti aN x=some y:=by obtain⟨L,D,T⟩:=x;simp only[rL] at h;split at h;rename_i hl;rw[<-h];simp only[Ti,fg];rw[show G0 (L,D)=some (ly L D) from aj hl,bm];(cases hx:ly L D with|false=>simp[au,df]|true=>have hd:=qU hx;have b:∀x∈D,1<=x:=fun x hx=>(hd x hx).1;rw[aW (by rfl),show pC (D,4096)=some (Ax 4096 D) from aj ⟨by omega,hl.2,zaf.2 fun x hx=>decide_eq_true (by have:=hd x hx;omega)⟩,bm];unfold Ax;rw[KO (by omega) D 0 1 b (by omega) (by omega),zbl];by_cases a:fp D<=4096;rw[aW dQ,aj ⟨rfl,a⟩,show min (fp D) (4096+1)=fp D by omega];rw[aX dg,ak (fun q=>a q.2)]);cases h
theorem aiF:∀(l:U) (x:Int),fp (l++[x])=fp l*x
 |[],x=>by simp[fp]
 |a::l,x=>by simp[fp,aiF l x,zaV]
theorem aiE:∀(l m:U),fp (l++m)=fp l*fp m
 |[],m=>by simp[fp]
 |a::l,m=>by simp[fp,aiE l m,zaV]
theorem aA5 {D:U} {j:Nat} (h:j<D.length):D.take (j+1)=D.take j++[D.getD j 0]:=by rw[zaL,getD_some 0 h];rfl
theorem Jx {D:U} {j:Nat} (h:j<D.length):fp (D.take (j+1))=fp (D.take j)*D.getD j 0:=by rw[aA5 h,aiF]
theorem aze {D:U} (h:∀x∈D,1<=x) (j:Nat):fp (D.take j)<=fp D:=by
 have e:fp D=fp (D.take j)*fp (D.drop j):=by rw[<-aiE,zba]
 have h1:=Jw (l:=D.take j) fun x hx=>h x (zaS hx);have a:=Jw (l:=D.drop j) fun x hx=>h x (zaT hx);have:=zag a (show 0<=fp (D.take j) by omega);rw[e];omega
def TV (L D:U) (j:Nat):Prop:=Ho L D j/\fp (D.take (j+1))<=4096
instance (L D:U) (j:Nat):Decidable (TV L D j):=by unfold TV;infer_instance
theorem ao4 (x:U×U×U) (y:Int) (h:tL x=some y):Sv aN x=some y:=by
 obtain⟨L,D,T⟩:=x;simp only[tL,rL] at h;split at h
 ·rename_i hl;rw[<-h];simp only[Sv,fg];by_cases p:L.length<=12
  rotate_left
  ·rw[aX (dg (by rw[nl];omega)),ak (fun q=>p (gH q.1).1)]
  rw[aW (dQ (by rw[nl];omega))];by_cases f:L.length=D.length
  rotate_left
  ·rw[aX (qJ (by rw[nl,nl];omega)),ak (fun q=>f (gH q.1).2.1)]
  rw[aW (me (by rw[nl,nl];omega))];obtain⟨n,hn,d,s⟩:=Ed (TV L D) L.length;have k:∀j,j<=n->1<=fp (D.take j)/\fp (D.take j)<=4096:=by
   intro j g;constructor
   ·apply Jw;intro x hx;obtain⟨i,H,e⟩:=zaR.1 hx;rw[IN] at H;have c:=(d i (by omega)).1.2.1;have t:=getD_some 0 (show i<D.length by omega);rw[List.getElem_take] at e;rw[wt (by omega),e] at t;rw[<-zbd t] at c;exact c.1
   ·cases j with
    |zero=>simp[fp]
    |succ j=>exact(d j (by omega)).2
  rw[eR (fun i=>((fp (D.take i),L,aD (ab L),(i:Int)),L,D,T)) (r:=if n<L.length then AI (-1) else co (fp D)) n ?_ ?_ ?_ dE]
  ·by_cases h:n<L.length
   ·rw[aj h,ak]
    ·rfl
    ·intro q;refine s.resolve_left (by omega) ⟨(gH q.1).2.2 n h,?_⟩;have:=aze (fun x hx=>(qU q.1 x hx).1) (n+1);have:=q.2;omega
   ·have e:n=L.length:=by omega
    have c:=(k n (IT n)).2;rw[e,f,zak] at c;rw[ak h,aj]
    ·rfl
    ·refine⟨?_,c⟩;simp only[ly,AT,decide_eq_true_eq];exact⟨p,f,fun j g=>(d j (by omega)).1⟩
  ·intro j g;simp only
   obtain⟨⟨a1,I,b⟩,o⟩:=d j g;have m:j<L.length:=by omega
   rw[aX (wE m),cE,getD_some 0 m,bm,aW dQ,aW dQ,RB (show j<=ab L by show j<=L.length;omega),bm];simp only[Rz];rw[show uI (L.take j,L.getD j 0)=some (decide (L.getD j 0∈L.take j)) from aj (by rw[IN];omega),bm,aW (decide_eq_false b),cE,getD_some 0 (show j<D.length by omega),bm,aW dQ,aW dQ]
   have l:=k j (by omega);obtain⟨G,C⟩:=XP (a:=fp (D.take j)) (x:=D.getD j 0) (A:=4096) (B:=8) (by omega) l.2 (by omega) I.2;rw[Jx (by omega)] at o;rw[rE,aW (dQ o),<-Jx (by omega)];simp only[je (show j<=1048577 by omega)]
  ·simp only
   by_cases h:n<L.length
   ·have E:=s.resolve_left (by omega);rw[aj h,aX (wE h),cE,getD_some 0 h,bm];by_cases u:L.getD n 0<0
    ·rw[aX (dg u)]
    rw[aW dQ];by_cases z:99<L.getD n 0
    ·rw[aX (dg z)]
    rw[aW dQ,RB (show n<=ab L by show n<=L.length;omega),bm];simp only[Rz];rw[show uI (L.take n,L.getD n 0)=some (decide (L.getD n 0∈L.take n)) from aj (by rw[IN];omega),bm]
    by_cases b:L.getD n 0∈L.take n
    ·rw[aX (decide_eq_true b)]
    rw[aW (decide_eq_false b),cE,getD_some 0 (show n<D.length by omega),bm];by_cases v:D.getD n 0<1
    ·rw[aX (dg v)]
    rw[aW dQ];by_cases F:8<D.getD n 0
    ·rw[aX (dg F)]
    rw[aW dQ];have l:=k n (IT n);obtain⟨G,C⟩:=XP (a:=fp (D.take n)) (x:=D.getD n 0) (A:=4096) (B:=8) (by omega) l.2 (by omega) (by omega);rw[rE];by_cases w:4096<fp (D.take n)*D.getD n 0
    ·rw[aX (dg w)]
    ·exact absurd ⟨⟨⟨by omega,by omega⟩,⟨by omega,by omega⟩,b⟩,by rw[Jx (by omega)];omega⟩ E
   ·have e:n=L.length:=by omega
    rw[ak h,aW (show bO _ (aD (ab L))=false from Jh (by show L.length<=_;omega)),e,f,zak]
  ·rfl
 ·cases h
theorem QT {R:List U} (h:∀l∈R,l.length<=1048576) {j:Nat} (a:j<R.length):(R.getD j []).length<=1048576:=by have e:=getD_some [] a;exact h _ (BY e)
theorem apR (x:(U×U×U)×Int×List U) (y:Bool) (h:Ci x=some y):Tc aN x=some y:=by
 obtain⟨⟨L,D,T⟩,m,R⟩:=x;simp only[Ci] at h;split at h
 ·rename_i hl;obtain⟨l,w,g⟩:=hl;simp only at l w g;rw[<-h];simp only[Tc,mY];rw[show rL (L,D,T)=some (fg L D) from aj l,bm]
  by_cases o:0<=fg L D
  rotate_left
  ·rw[aX dg,decide_eq_false o];rfl
  rw[aW dQ,decide_eq_true o,zac];simp only[nY,bm];by_cases f:1<=m/\m<=12
  rotate_left
  ·rw[aX (MK f),decide_eq_false f];rfl
  rw[aW (FU f),decide_eq_true f,zac];by_cases v:R.length=D.length
  rotate_left
  ·rw[aX (qJ (by rw[nl,nl];omega)),decide_eq_false v];rfl
  rw[aW (me (by rw[nl,nl];omega)),decide_eq_true v,zac];obtain⟨n,hn,t,p⟩:=Ed (KT m D R) R.length;rw[eR (fun i=>((D,aD (ab D),(i:Int)),m,R)) (r:=if n<R.length then AI false else co ()) n ?_ ?_ ?_ dE]
  ·by_cases h:n<R.length
   ·rw[aj h,decide_eq_false (fun q=>(p.resolve_left (by omega)) (q n h))];rfl
   ·rw[ak h,decide_eq_true (fun j s=>t j (by omega))];rfl
  ·intro j s;simp only
   obtain⟨e,k⟩:=t j s;have u:j<R.length:=by omega
   have d:j<D.length:=by omega
   have hr:=QT g u;rw[aX (wE d),cE,cE,getD_some 0 d,getD_some [] u,bm,bm,aW (me (by rw[nl];exact e)),bm];rw[FM (mk:=fun i=>((D,aD (ab D),(j:Int),R.getD j [],aD (ab (R.getD j [])),(i:Int)),m,R)) (R.getD j []) (Dk m) (AI (AI (AI false))) (co (((j:Int),D,aD (ab D)),m,R)) ?_ ?_ ?_ ?_ dE]
   ·rw[aj (show(R.getD j []).all (Dk m)=true from k),io]
    simp only[je (show j<=1048577 by omega)]
   all_goals try simp only
   ·intro i a b c;have c:=of_decide_eq_true c;rw[aX (ph b),cE,b,bm,mT,aW (FU (by omega)),tw b (by omega)]
   ·intro i a b c;have c:=of_decide_eq_false c;rw[aX (ph b),cE,b,bm,mT,aX (MK (by omega))]
   ·rw[aW (iQ _)]
   ·rfl
  ·simp only
   by_cases h:n<R.length
   ·have z:=p.resolve_left (by omega);have d:n<D.length:=by omega
    have hr:=QT g h;rw[aj h,aX (wE d),cE,cE,getD_some 0 d,getD_some [] h,bm,bm];by_cases e:((R.getD n []).length:Int)=D.getD n 0
    rotate_left
    ·rw[aX (qJ (by rw[nl];exact e))];rfl
    rw[aW (me (by rw[nl];exact e)),bm];have k:vy m (R.getD n [])≠true:=fun q=>z ⟨e,q⟩;rw[FM (mk:=fun i=>((D,aD (ab D),(n:Int),R.getD n [],aD (ab (R.getD n [])),(i:Int)),m,R)) (R.getD n []) (Dk m) (AI (AI (AI false))) (co (((n:Int),D,aD (ab D)),m,R)) ?_ ?_ ?_ ?_ dE]
    ·rw[ak (show¬(R.getD n []).all (Dk m)=true from k)]
     rfl
    all_goals try simp only
    ·intro i a b c;have c:=of_decide_eq_true c;rw[aX (ph b),cE,b,bm,mT,aW (FU (by omega)),tw b (by omega)]
    ·intro i a b c;have c:=of_decide_eq_false c;rw[aX (ph b),cE,b,bm,mT,aX (MK (by omega))]
    ·rw[aW (iQ _)]
    ·rfl
   ·rw[ak h,aW (show bO _ (aD (ab D))=false from Jh (by show D.length<=_;omega))]
  ·rfl
 ·cases h
theorem aoX (x:(U×U×U)×Int×List U) (y:Bool) (h:GF x=some y):Sp aN x=some y:=by
 obtain⟨⟨L,D,T⟩,m,R⟩:=x;simp only[GF,Ci] at h;split at h
 ·rename_i hl;obtain⟨f,t,c⟩:=hl;simp only at f t c;rw[<-h];simp only[Sp,mY];rw[show tL (L,D,T)=some (fg L D) from aj f,bm]
  have pN:fg L D= -1\/0<=fg L D:=by
   unfold fg;by_cases q:ly L D=true/\fp D<=4096
   ·rw[aj q];have:=Jw fun x hx=>(qU q.1 x hx).1;right;omega
   ·rw[ak q];left;rfl
  by_cases g:0<=fg L D
  rotate_left
  ·rw[aX (uV (by omega)),decide_eq_false g];rfl
  rw[aW nw,decide_eq_true g,zac];by_cases v:1<=m
  rotate_left
  ·rw[aX dg,decide_eq_false (p:=1<=m/\m<=12) (by omega)];rfl
  rw[aW dQ];by_cases w:m<=12
  rotate_left
  ·rw[aX dg,decide_eq_false (p:=1<=m/\m<=12) (by omega)];rfl
  rw[aW dQ,decide_eq_true (p:=1<=m/\m<=12) ⟨v,w⟩,zac];by_cases s:R.length=D.length
  rotate_left
  ·rw[aX (qJ (by rw[nl,nl];omega)),decide_eq_false s];rfl
  rw[aW (me (by rw[nl,nl];omega)),decide_eq_true s,zac];obtain⟨n,hn,o,k⟩:=Ed (KT m D R) R.length;rw[eR (fun i=>((R,aD (ab R),(i:Int)),(L,D,T),m,R)) (r:=if n<R.length then AI false else co ()) n ?_ ?_ ?_ dE]
  ·by_cases h:n<R.length
   ·rw[aj h,decide_eq_false (fun q=>(k.resolve_left (by omega)) (q n h))];rfl
   ·rw[ak h,decide_eq_true (fun j l=>o j (by omega))];rfl
  ·intro j l;simp only
   obtain⟨a,e⟩:=o j l;have d:j<R.length:=by omega
   have b:j<D.length:=by omega
   have hr:=QT c d;rw[aX (wE d),cE,cE,getD_some 0 b,getD_some [] d,bm,bm,aW (me (by rw[nl];exact a)),show Ep (m,R.getD j [])=some (vy m (R.getD j [])) from aj hr,bm,e,aW (by rfl)]
   simp only[je (show j<=1048577 by omega)]
  ·simp only
   by_cases h:n<R.length
   ·have u:=k.resolve_left (by omega);have b:n<D.length:=by omega
    have hr:=QT c h;rw[aj h,aX (wE h),cE,cE,getD_some 0 b,getD_some [] h,bm,bm];by_cases a:((R.getD n []).length:Int)=D.getD n 0
    rotate_left
    ·rw[aX (qJ (by rw[nl];exact a))]
    rw[aW (me (by rw[nl];exact a))];have e:vy m (R.getD n [])=false:=by
     cases q:vy m (R.getD n []) with
     |false=>rfl
     |true=>exact absurd ⟨a,q⟩ u
    rw[show Ep (m,R.getD n [])=some (vy m (R.getD n [])) from aj hr,bm,e,aX (by rfl)]
   ·rw[ak h,aW (show bO _ (aD (ab R))=false from Jh (by show R.length<=_;omega))]
  ·rfl
 ·cases h
theorem afZ {X Y α S:Type} {f:X->Option (X⊕Y)} (c:List α) (mk:S->Nat->X) (I:Nat->S->Prop) (step:Nat->S->α->Option S) (h:Y) (fF:S->Y) (j:∀i s a,c[i]? =some a->I i s->f (mk s i)=some (match step i s a with|some b=>.inl (mk b (i+1))|none=>.inr h)) (l:∀i s a b,c[i]? =some a->I i s->step i s a=some b->I (i+1) b) (o:∀s,I c.length s->f (mk s c.length)=some (.inr (fF s))) {s:S} (m:I 0 s) {k:X} (hx:k=mk s 0) {N:Nat} (n:c.length<N): cj N f k=some (match ri step 0 s c with|some b=>fF b|none=>h):= XE c mk I step h fF (fun i s a b e g d=>⟨by rw[j i s a e g,d],l i s a b e g d⟩) (fun i s a e g d=>by rw[j i s a e g,d]) o m hx n
def ah4 (x:Int×Int):Prop:=(0<=x.1/\x.1<=4096)/\(0<=x.2/\x.2<=4096)/\x.1*x.2<=1048576
instance (x:Int×Int):Decidable (ah4 x):=by unfold ah4;infer_instance
def uD (M:Nat->Nat->Int) (a b:Nat):Nat->Nat->Int:=fun i j=>if i=a then M b j else if i=b then M a j else M i j
def BR (M:Nat->Nat->Int) (j:Nat):Nat->Nat->Option Nat
 |0,_=>none
 |d+1,k=>if M k j=0 then BR M j d (k+1) else some k
def zz (p out x:Int) (n:Nat):Int:=if h:n=0 then out else zz p (if n%2=1 then out*x%p else out) (x*x%p) (n/2)
termination_by n
decreasing_by omega
def mw:U->Option U:=fun(l:U)=>if l.length<=1099511627776 then some l else none
def vI:U->Option U:=fun(l:U)=>if l.length<=1099511627776 then some l else none
def ah0 (x:Int×(Int×Int×U)×(Int×Int×U)):Prop:=tz x.1/\FQ x.2.1/\FQ x.2.2/\x.2.1.2.1=x.2.2.1/\x.2.1.1*x.2.2.2.1<=1048576/\uP x.1 x.2.1.2.2/\uP x.1 x.2.2.2.2
instance (x:Int×(Int×Int×U)×(Int×Int×U)):Decidable (ah0 x):=by unfold ah0;infer_instance
def Tr (NN:Nat):U->(Option U):=
 (fun(l0:U)=>
 (aO 0 0 (ab (([]:U)))).ae (fun _=>
 (iN (av (ab (([]:U))) (ab l0)) 8).ae (fun _=>
 (ed (dn (([]:U)) l0) (av (ab (([]:U))) (ab l0))).ae (fun l1=>
 some l1))))
def Sz (NN:Nat):U->(Option U):=
 (fun(l0:U)=>
 (iN (av (ab (([]:U))) (ab l0)) 8).ae (fun _=>
 (ed (dn (([]:U)) l0) (av (ab (([]:U))) (ab l0))).ae (fun l1=>
 some l1)))
theorem aqb (x y:U) (h:mw x=some y):Tr aN x=some y:=by simp only[mw] at h;split at h;rename_i hl;rw[<-h];simp only[Tr];rw[show aO 0 0 (ab ([]:U))=some () from rfl,bm,kv (by simp only[av,ab,zay,eD];omega),bm];have:dn [] x=x:=rfl;rw[this,show av (ab ([]:U)) (ab x)=ab x by simp[av,ab],iJ];rfl;cases h
theorem apa (x y:U) (h:vI x=some y):Sz aN x=some y:=by simp only[vI] at h;split at h;rename_i hl;rw[<-h];simp only[Sz];rw[kv (by simp only[av,ab,zay,eD];omega),bm];have:dn [] x=x:=rfl;rw[this,show av (ab ([]:U)) (ab x)=ab x by simp[av,ab],iJ];rfl;cases h
theorem Yh {M:Nat->Nat->Int} {j q:Nat}:∀{d k:Nat},BR M j d k=some q->k<=q/\q<k+d/\M q j≠0
 |0,k,h=>by cases h
 |d+1,k,h=>by simp only[BR] at h;split at h;have:=Yh h;exact⟨by omega,by omega,this.2.2⟩;rename_i a;injection h with h;subst h;exact⟨by omega,by omega,a⟩
theorem asv (p out x:Int):zz p out x 0=out:=by rw[zz];rfl
theorem asx {n:Nat} (h:n≠0) (p out x:Int):zz p out x n=zz p (if n%2=1 then out*x%p else out) (x*x%p) (n/2):=by rw[zz,dif_neg h]
def ali (x:Int×Int×Int):Prop:=jY x.1=true/\(1<=x.2.1/\x.2.1<=8)/\(1<=x.2.2/\x.2.2<=8)
instance (x:Int×Int×Int):Decidable (ali x):=by unfold ali;infer_instance
abbrev fz:=Nat->Nat->Int
def Gb (p inv:Int) (M:fz) (t:Nat):fz:=fun a b=>if a=t then M t b*inv%p else M a b
def nv (p:Int) (M:fz) (t j n:Nat):fz:=fun a b=>if a<n/\a≠t then(M a b+(p - M a j)*M t b)%p else M a b
def MR (p:Int) (M:fz) (t j k:Nat):fz:=Gb p (zz p 1 (uD M t k t j) (p - 2).toNat) (uD M t k) t
def aiU (p:Int) (M:fz) (t j k:Nat) (d:Int):Int:=(if k=t then d else(p - d)%p)*uD M t k t j%p
def BS (p:Int) (r:Nat) (s:fz×U×Int) (j:Nat):fz×U×Int:=
 if s.2.1.length<r then
  match BR s.1 j (r - s.2.1.length) s.2.1.length with
  |none=>s
  |some k=>(nv p (MR p s.1 s.2.1.length j k) s.2.1.length j r,s.2.1++[(j:Int)],aiU p s.1 s.2.1.length j k s.2.2)
 else s
def aiV (p:Int) (r:Nat) (M:fz):Nat->fz×U×Int
 |0=>(M,[],1)
 |j+1=>BS p r (aiV p r M j) j
def aiW (x:Int×Int×Int×U):Prop:=tz x.1/\FQ x.2/\uP x.1 x.2.2.2
instance (x:Int×Int×Int×U):Decidable (aiW x):=by unfold aiW;infer_instance
theorem alL {p:Int} {r c:Nat} {M:fz} (d:vk p r c M) {a b:Nat} (g:a<r) (f:b<r):vk p r c (uD M a b):=by intro i h j e;unfold uD;split;exact d b f j e;split;exact d a g j e;exact d i h j e
theorem akX {p inv:Int} {r c:Nat} {M:fz} (b:tz p) (a:vk p r c M) (t:Nat):vk p r c (Gb p inv M t):=by intro i d j e;unfold Gb;split;exact UD b _;exact a i d j e
theorem anx {p:Int} {r c:Nat} {M:fz} (b:tz p) (a:vk p r c M) (t k n:Nat):vk p r c (nv p M t k n):=by intro i d j e;unfold nv;split;exact UD b _;exact a i d j e
theorem ay3 {p:Int} {r c:Nat} {M:fz} (d:tz p) (b:vk p r c M) {t k:Nat} (a:t<r) (e:k<r) (j:Nat):vk p r c (MR p M t j k):=akX d (alL b a e) t
structure RI (p:Int) (r c:Nat) (s:fz×U×Int) (j:Nat):Prop where
 m:vk p r c s.1
 l:s.2.1.length<=r
 lj:s.2.1.length<=j
 d:vl p s.2.2
 e:∀x∈s.2.1,0<=x/\x<(j:Int)
theorem RI.step {p:Int} {r c:Nat} {s:fz×U×Int} {j:Nat} (a:tz p) (h:RI p r c s j):RI p r c (BS p r s j) (j+1):=by have keep:RI p r c s (j+1):=⟨h.m,h.l,by have:=h.lj;omega,h.d,fun x hx=>by have:=h.e x hx;omega⟩;unfold BS;split;rename_i hl;split;exact keep;rename_i k b;have hq:=Yh b;refine⟨anx a (ay3 a h.m hl (by omega) j) _ _ _,?_,?_,UD a _,?_⟩;simp only[zae,zab,zay];omega;have:=h.lj;simp only[zae,zab,zay];omega;intro x hx;simp only[List.mem_append,List.mem_singleton] at hx;rcases hx with hx|rfl;have:=h.e x hx;omega;omega;exact keep
theorem anw {p:Int} (M:fz) (t j:Nat):nv p M t j 0=M:=by funext a b;exact ak (by omega)
theorem anz {p:Int} (M:fz) (t j n b:Nat):nv p M t j n n b=M n b:=ak (by omega)
theorem anB {p:Int} (M:fz) (t j n b:Nat):nv p M t j n t b=M t b:=ak (by omega)
theorem anA {p:Int} (M:fz) (t j:Nat):nv p M t j (t+1)=nv p M t j t:=by funext a b;unfold nv;by_cases h:a<t;rw[aj (by omega),aj (by omega)];rw[ak (by omega),ak (by omega)]
theorem aix {M:fz} {j:Nat}:∀{d k:Nat},BR M j d k=none->∀i,k<=i->i<k+d->M i j=0
 |0,k,_,i,h1,h2=>by omega
 |d+1,k,h,i,h1,h2=>by simp only[BR] at h;split at h;rename_i a;by_cases b:i=k;rw[b];exact a;exact aix h i (by omega) (by omega);cases h
theorem azu {p:Int} {r:Nat} {s:fz×U×Int} {j:Nat} (hl:s.2.1.length<r) (h:BR s.1 j (r - s.2.1.length) s.2.1.length=none):BS p r s j=s:=by unfold BS;rw[aj hl,h]
theorem azv {p:Int} {r:Nat} {s:fz×U×Int} {j k:Nat} (hl:s.2.1.length<r) (h:BR s.1 j (r - s.2.1.length) s.2.1.length=some k): BS p r s j=(nv p (MR p s.1 s.2.1.length j k) s.2.1.length j r,s.2.1++[(j:Int)],aiU p s.1 s.2.1.length j k s.2.2):=by unfold BS;rw[aj hl,h]
section
variable {p:Int} {r c:Nat} {M0:fz}
end
section
variable {p:Int} {r c:Nat} {M0:fz}
end
section
variable {p:Int} {r c:Nat} {M R:fz} {L:U}
end
abbrev Cv:=Int×Int×Int×U
def aAt:Cv:=(0,0,0,[])
def ak9 (s:Cv):Prop:=(0<=s.1/\s.1<=64)/\(0<=s.2.1/\s.2.1<=64)/\(0<=s.2.2.1/\s.2.2.1<=64)/\(s.2.2.2.length:Int)=s.1*s.2.1*s.2.2.1
instance (s:Cv):Decidable (ak9 s):=by unfold ak9;infer_instance
def bd (b:Int) (l:List Cv):Nat->Int
 |0=>b
 |k+1=>(l.getD k aAt).2.2.1
def dd (n:Nat) (f:Nat->Int):U:=(zal n).map f
theorem fT (n:Nat) (f:Nat->Int):(dd n f).length=n:=by simp[dd]
theorem rI {n j:Nat} (f:Nat->Int) (h:j<n):(dd n f)[j]? =some (f j):=by simp[dd,zbn h]
theorem ko {n:Nat} {f g:Nat->Int} (h:∀j,j<n->f j=g j):dd n f=dd n g:=zaX fun j a=>h j (zaM.1 a)
theorem F8 {n j:Nat} (f:Nat->Int) (x:Int):bB (dd n f) j x=dd n (fun q=>if q=j then x else f q):=by unfold bB;apply Pd;intro k;rw[List.getElem?_set,fT];by_cases a:k<n;rw[rI _ a,rI _ a];by_cases e:j=k;subst e;simp[a];rw[ak e];simp[show¬k=j from fun h=>e h.symm];rw[GB (by rw[fT];omega),GB (by rw[fT];omega)];by_cases e:j=k;subst e;simp[a];simp[e]
theorem FL (n:Nat) (f:Nat->Int):ab (dd n f)=n:=fT n f
theorem YD (n:Nat) (x:Int):cR n x=dd n (fun _=>x):=by unfold cR dd;rw[List.map_const',zby]
theorem xF (n:Nat) (f g:Nat->Int):aO 0 (ab (dd n f)) (ab (dd n g))=some ():=by rw[FL,FL];exact be n
theorem CD {n j:Nat} (f:Nat->Int) (h:j<n):cN (j:Int) (ab (dd n f))=some j:=kI (by rw[FL];exact h)
theorem EZ {n j:Nat} (f:Nat->Int) (h:j<n):bQ (dd n f) j=some (f j):=rI f h
theorem Vd {α:Type} (P:Nat->α->Bool) (d:α):∀(l:List α) (i:Nat),ri (fun i (_:Unit) a=>if P i a=true then some () else none) i () l=if(∀k,k<l.length->P (i+k) (l.getD k d)=true) then some () else none
 |[],i=>by simp[ri]
 |a::l,i=>by rw[ri];by_cases h:P i a=true;rw[aj h];(try simp only);rw[Vd P d l (i+1)];have:(∀k,k<l.length->P (i+1+k) (l.getD k d)=true)↔(∀k,k<(a::l).length->P (i+k) ((a::l).getD k d)=true):=(by constructor;intro b k e;(cases k with|zero=>exact h|succ k=>have:=b k (by simpa using e);rw[show i+(k+1)=i+1+k by omega];exact this);intro b k e;have:=b (k+1) (by simpa using e);rw[show i+(k+1)=i+1+k by omega] at this;exact this);by_cases c:∀k,k<l.length->P (i+1+k) (l.getD k d)=true;rw[aj c,aj (this.1 c)];rw[ak c,ak (fun f=>c (this.2 f))];rw[ak h,ak (fun b=>h (b 0 (by simp)))]
theorem map_take {α:Type} (g:α->Int) {L:List α} {j:Nat} {x:α} (h:L[j]? =some x):dn ((L.take j).map g) [g x]=(L.take (j+1)).map g:=by simp[dn,zaL,h]
def aC:U->Nat
 |[]=>1
 |x::l=>x.toNat*aC l
def dV (D:U) (i:Nat):Nat:=aC (D.drop i)
def ef (D:U) (n i:Nat):Int:=((n/dV D (i+1)%(D.getD i 0).toNat:Nat):Int)
def aM (D:U) (n:Nat):U:=dd D.length (ef D n)
def jQ (D ix:U):Nat->Nat
 |0=>0
 |j+1=>jQ D ix j*(D.getD j 0).toNat+(ix.getD j 0).toNat
def jG (D:U):Prop:=D.length<=1048576/\∀x∈D,1<=x/\x<=1048576
instance (D:U):Decidable (jG D):=by unfold jG;infer_instance
def xg:U×Int->Option U:=fun x=>if jG x.1/\0<=x.2/\x.2<=1048576 then some (aM x.1 x.2.toNat) else none
def xf:U×U->Option (Bool×U):=fun x=>
 if jG x.1/\x.2=aM x.1 (jQ x.1 x.2 x.1.length)/\jQ x.1 x.2 x.1.length<aC x.1/\aC x.1<=1048576 then
  some (decide (jQ x.1 x.2 x.1.length+1<aC x.1),aM x.1 (jQ x.1 x.2 x.1.length+1)) else none
def Tq (NN:Nat):(U×Int)->(Option U):=
 (fun((l0,i1):(U×Int))=>
 (kB (aD (ab l0)) (aD (ab l0)) 8).ae (fun k2=>
 bK ((aO 0 k2 (ab (cR k2 (0:Int)))).ae (fun _=>
 cj NN (fun(((l3,i4,i5),l6):((U×(Int×Int))×U))=>
 au (fR (0:Int) i5)
 ((bF l3 i5).ae (fun i7=>
 (hZ i4 i7).ae (fun i8=>
 (cN i5 (ab l6)).ae (fun k9=>
 (bQ l6 (av 0 k9)).ae (fun fO=>
 (bF l3 i5).ae (fun dX=>
 (JA .i64 i4 dX).ae (fun eC=>
 (aO 0 (ab l6) (ab (bB l6 (av 0 k9) i8))).ae (fun _=>
 some (co ((l3,eC,iw .i64 i5 1),bB l6 (av 0 k9) i8))))))))))
 ((ah l6 (
 some (co l6))).ae (fun cM=>
 some (AI cM))))
 ((l0,i1,iw .i64 (aD (ab l0)) (1:Int)),cR k2 (0:Int))))
 (fun cO=>
 (ed cO (ab cO)).ae (fun dk=>
 some dk))))
def SK (NN:Nat):(U×U)->(Option (Bool×U)):=
 (fun((l0,l1):(U×U))=>
 bK (ah l1 (
 cj NN (fun(((l2,i3),l4):((U×Int)×U))=>
 au (fR (0:Int) i3)
 ((cN i3 (ab l4)).ae (fun k5=>
 (bQ l4 (av 0 k5)).ae (fun i6=>
 (cN i3 (ab l4)).ae (fun k7=>
 (bQ l4 (av 0 k7)).ae (fun i8=>
 (cN i3 (ab l4)).ae (fun k9=>
 (bQ (bB l4 (av 0 k7) (bo .i64 i6 1)) (av 0 k9)).ae (fun fO=>
 (bF l2 i3).ae (fun dX=>
 au (bO fO dX)
 ((((kq (ab (bB l4 (av 0 k7) (bo .i64 i6 1))) (ab l1)).ae (fun _=>
 some (true,bB l4 (av 0 k7) (bo .i64 i6 1)))).ae (fun((Ar,cM):(Bool×U))=>
 some (AI (Ar,cM)))).ae (fun cO=>
 some (AI cO)))
 ((cN i3 (ab l4)).ae (fun Xa=>
 (bQ (bB l4 (av 0 k7) (bo .i64 i6 1)) (av 0 Xa)).ae (fun fH=>
 (aO 0 (ab l4) (ab (bB (bB l4 (av 0 k7) (bo .i64 i6 1)) (av 0 Xa) (0:Int)))).ae (fun _=>
 some (co ((l2,iw .i64 i3 1),bB (bB l4 (av 0 k7) (bo .i64 i6 1)) (av 0 Xa) (0:Int)))))))))))))))
 (some (AI (co l4))))
 ((l0,iw .i64 (aD (ab l0)) (1:Int)),l1)))
 (fun dA=>
 (kq (ab dA) (ab l1)).ae (fun _=>
 some (false,dA))))
theorem HW {D:U} (h:jG D) {i:Nat} (a:i<D.length):∃d:Nat,D[i]? =some (d:Int)/\D.getD i 0=(d:Int)/\(D.getD i 0).toNat=d/\1<=d/\d<=1048576:=by have e:=getD_some 0 a;have hm:=h.2 _ (BY e);obtain⟨d,hd⟩:=pW (show 0<=D.getD i 0 by omega);exact⟨d,by rw[e,hd],hd,by rw[hd];rfl,by omega,by omega⟩
theorem B2 {D:U} {i:Nat} (a:i<D.length):dV D i=(D.getD i 0).toNat*dV D (i+1):=by unfold dV;rw[drop_cons (getD_some 0 a),aC]
theorem uF (D:U):dV D D.length=1:=by simp[dV,aC]
theorem R5 (D:U):dV D 0=aC D:=rfl
theorem vt:∀{D:U},(∀x∈D,1<=x)->0<aC D
 |[],_=>Nat.one_pos
 |x::l,h=>by have h1:=h x zaF;exact zbM (by omega) (vt fun y hy=>h y (zar _ hy))
theorem alP {D:U} (h:jG D) (i:Nat):0<dV D i:=vt fun x hx=>(h.2 x (zaT hx)).1
theorem tC:∀{D:U},(∀x∈D,1<=x)->fp D=(aC D:Int)
 |[],_=>rfl
 |x::l,h=>by have h1:=h x zaF;rw[fp,aC,tC fun y hy=>h y (zar _ hy)];obtain⟨x,rfl⟩:=pW (show 0<=x by omega);simp
theorem ZJ {D:U} {i j:Nat} (h:i<=j) (hj:j<=D.length):dV D j∣dV D i:=by obtain⟨k,rfl⟩:∃k,j=i+k:=⟨j - i,by omega⟩;induction k with|zero=>exact Nat.dvd_refl _|succ k a=>refine zbs ?_ (a (by omega) (by omega));rw[B2 (i:=i+k) (by omega)];exact Nat.dvd_mul_left _ _
def sB (D:U) (n n' k:Nat):U:=dd D.length fun q=>if k<=q then ef D n' q else ef D n q
theorem agj (D:U) (n n':Nat):sB D n n' 0=aM D n':=ko fun q _=>by simp
theorem agk (D:U) (n n':Nat):sB D n n' D.length=aM D n:=ko fun q hq=>by simp;intro h;omega
theorem Qv (D:U) (n n' k:Nat):bB (sB D n n' (k+1)) k (ef D n' k)=sB D n n' k:=by unfold sB;rw[F8];refine ko fun q _=>?_;by_cases e:q=k;subst e;simp;by_cases h:k<=q;rw[ak e,aj (by omega),aj h];rw[ak e,ak (by omega),ak h]
theorem MD (D:U) (n n' k:Nat):ab (sB D n n' k)=D.length:=fT _ _
theorem FR {D:U} {n n' k:Nat} (h:k<D.length):bQ (sB D n n' (k+1)) k=some (ef D n k):=by unfold sB;rw[EZ _ h,ak (by omega)]
theorem anr {a b:Nat} (hb:0<b) (ha:a<=1048576):JA .i64 (a:Int) (b:Int)=some ((a/b:Nat):Int):=by have e:((a:Int)/(b:Int))=((a/b:Nat):Int):=(by norm_cast);have:a/b<=a:=zbe a b;unfold JA;rw[ak (by omega),Int.tdiv_eq_ediv_of_nonneg (by omega),e];clear e;generalize a/b=q at*;rw[Sl (by omega) (by omega)]
theorem aa5 {a b:Nat} (hb:0<b):hZ (a:Int) (b:Int)=some ((a%b:Nat):Int):=by rw[azA (by omega) (by omega)];norm_cast
theorem RW {n:Nat} (h:n<=1048577:=by omega):iw .i64 (n:Int) 1=(n:Int) - 1:=mT
theorem acf (x:U×Int) (y:U) (h:xg x=some y):Tq aN x=some y:=by
 obtain⟨D,n⟩:=x;simp only[xg] at h;split at h
 ·rename_i i;obtain⟨c,l,h1⟩:=i;rw[<-h];obtain⟨n,rfl⟩:=pW l;have hl:=c.1;simp only[Tq,AN,ah];rw[qH (n:=ab D) (by simp only[ab,eD];omega),bm];rw[show aO 0 (ab D) (ab (cR (ab D) (0:Int)))=some () from by rw[uv];exact be _,bm]
  rw[eR (fun j=>((D,((n/dV D (D.length - j):Nat):Int),(D.length:Int) - j - 1),dd D.length fun q=>if D.length - j<=q then ef D n q else 0)) (r:=co (aM D n)) D.length ?_ ?_ ?_ dE]
  ·rw[io,iJ,bm]
  ·intro j hj;have a:D.length - (j+1)<D.length:=by omega
   obtain⟨d,o,d2,f,d4,d5⟩:=HW c a;have k:(D.length:Int) - j - 1=((D.length - (j+1):Nat):Int):=by omega
   have m:dV D (D.length - (j+1))=d*dV D (D.length - j):=by rw[B2 a,f];congr 2;omega
   have b:ef D n (D.length - (j+1))=((n/dV D (D.length - j)%d:Nat):Int):=by unfold ef;rw[f];congr 4;omega
   have gS:n/dV D (D.length - j)<=n:=zbe _ _;simp only
   rw[k,aX lc,cE,o,bm,aa5 (by omega),bm,CD _ a,bm,f9,EZ _ a,bm];simp only[bm];rw[anr (by omega) (by omega),bm,<-b,F8];simp only[xF,bm];rw[RW,za7,IS (dV D (D.length - j)) d,<-m];have er:dd D.length (fun q=>if q=D.length - (j+1) then ef D n (D.length - (j+1)) else if D.length - j<=q then ef D n q else 0)=dd D.length fun q=>if D.length - (j+1)<=q then ef D n q else 0:=by
    refine ko fun q _=>?_;by_cases e:q=D.length - (j+1)
    ·rw[aj e,aj (by omega),e]
    ·rw[ak e];by_cases h:D.length - j<=q
     ·rw[aj h,aj (by omega)]
     ·rw[ak h,ak (by omega)]
   rw[er];congr 5;omega
  ·simp only
   rw[aW zM];simp only[xF,bm];rw[show dd D.length (fun q=>if D.length - D.length<=q then ef D n q else 0)=aM D n from ko fun q _=>by simp]
  ·rw[YD,zbC,uF,zb3];have g:iw .i64 (aD (ab D)) 1=(D.length:Int) - ((0:Nat):Int) - 1:=by rw[nl,RW];omega
   rw[g];have p:dd (ab D) (fun _=>(0:Int))=dd D.length fun q=>if D.length<=q then ef D n q else 0:=ko fun q hq=>by rw[ak (by have:ab D=D.length:=rfl;omega)]
   rw[p]
 ·cases h
theorem an2 {a k:Nat} (hk:0<k) (h:(a+1)%k≠0):(a+1)/k=a/k:=by rw[zbW,ak (fun hd=>h (zaJ hd)),zbA]
theorem an3 {a k:Nat} (hk:0<k) (h:(a+1)%k=0):(a+1)/k=a/k+1:=by rw[zbW,aj (zaw h)]
theorem abE {D:U} (a:jG D) {n i:Nat} (d:i<=D.length) (h:(n+1)%dV D i≠0) {q:Nat} (b:q<i):ef D (n+1) q=ef D n q:=by unfold ef;rw[an2 (alP a _)];intro c;exact h (zaJ (zbs (ZJ b d) (zaw c)))
theorem OJ {D:U} (f:jG D) {n i:Nat} (m:i<D.length) (h:(n+1)%dV D (i+1)=0):
  (ef D n i+1<D.getD i 0->ef D (n+1) i=ef D n i+1/\(n+1)%dV D i≠0)/\(¬ef D n i+1<D.getD i 0->ef D (n+1) i=0/\(n+1)%dV D i=0):=by
 obtain⟨d,d1,p,o,d4,d5⟩:=HW f m;have e:=alP f (i+1);have g:=an3 e h;obtain⟨c,j⟩:=zaw h;have l:(n+1)/dV D (i+1)=c:=by rw[j,Nat.mul_div_cancel_left _ e]
 have b:(n+1)%dV D i=dV D (i+1)*(c%d):=by rw[B2 m,o,j,IS d,Nat.mul_mod_mul_left]
 unfold ef;rw[p,l,b];simp only[AN];rw[l] at g;have cF:n/dV D (i+1)%d<d:=zbg _ (by omega);have k:c%d=if n/dV D (i+1)%d+1<d then n/dV D (i+1)%d+1 else 0:=by
  rw[g,zbN];split
  ·rename_i hx;by_cases a:d=1
   ·omega
   ·rw[zam (show 1<d by omega),zam hx]
  ·by_cases a:d=1
   ·subst a;omega
   ·rw[zam (show 1<d by omega),show n/dV D (i+1)%d+1=d by omega,Nat.mod_self]
 constructor
 ·intro hx;rw[k,aj (by omega)];refine⟨by omega,?_⟩;have:=zbM e (show 0<n/dV D (i+1)%d+1 by omega);omega
 ·intro hx;rw[k,ak (by omega)];exact⟨by omega,by simp⟩
theorem apn (x:U×U) (y:Bool×U) (h:xf x=some y):SK aN x=some y:=by
 obtain⟨D,ix⟩:=x;simp only[xf] at h;split at h
 ·rename_i w;obtain⟨f,B,hn,hp⟩:=w;rw[<-h];generalize jQ D ix D.length=n at*
  subst B;have hl:=f.1;have hlen:(aM D n).length=D.length:=fT _ _;simp only[SK,ah];rw[be,bm];obtain⟨k,k1,G,v⟩:=Ed (fun j=>(n+1)%dV D (D.length - (j+1))=0) D.length;have i:∀j,j<=k->(n+1)%dV D (D.length - j)=0:=fun j p=>by
   cases j with
   |zero=>rw[zbC,uF];omega
   |succ j=>exact G j (by omega)
  have A:∀j,j<k->ef D (n+1) (D.length - (j+1))=0/\¬ef D n (D.length - (j+1))+1<D.getD (D.length - (j+1)) 0:=fun j p=>by
   have a:D.length - (j+1)<D.length:=by omega
   have b:=i j (by omega);rw[show D.length - j=D.length - (j+1)+1 by omega] at b;obtain⟨m,s⟩:=OJ f a b;by_cases hx:ef D n (D.length - (j+1))+1<D.getD (D.length - (j+1)) 0
   ·exact absurd (i (j+1) (by omega)) (m hx).2
   ·exact⟨(s hx).1,hx⟩
  have d:∀q,0<=ef D n q/\ef D n q<=1048576:=fun q=>by
   unfold ef;have b:n/dV D (q+1)%(D.getD q 0).toNat<=n/dV D (q+1):=Nat.mod_le _ _;have h2:n/dV D (q+1)<=n:=zbe _ _;omega
  have F:iw .i64 (aD (ab D)) 1=(D.length:Int) - ((0:Nat):Int) - 1:=by rw[nl,RW];omega
  rw[eR (fun j=>((D,(D.length:Int) - (j:Int) - 1),sB D n (n+1) (D.length - j))) (r:=if k=D.length then co (aM D (n+1)) else AI (true,aM D (n+1))) k ?_ ?_ ?_ dE]
  ·by_cases a:k=D.length
   ·rw[aj a,io];have C:(n+1)%aC D=0:=by have:=i k (IT _);rwa[a,zbc,R5] at this
    have t:¬n+1<aC D:=fun hx=>by rw[zam hx] at C;omega
    rw[decide_eq_false t,rJ (by show ab (aM D (n+1))=ab (aM D n);unfold aM;rw[FL,FL]),bm]
   ·rw[ak a,P6];have l:=(v.resolve_left a);have t:n+1<aC D:=by
     rcases za0 (n+1) (aC D) with h|h
     ·exact h
     ·exfalso;have e:n+1=aC D:=by omega
      apply l;rw[e,<-R5];exact zaJ (ZJ (zbm _) (by omega))
    rw[decide_eq_true t]
  ·intro j p;have a:D.length - (j+1)<D.length:=by omega
   have o:(D.length:Int) - j - 1=((D.length - (j+1):Nat):Int):=by omega
   obtain⟨u,z⟩:=A j p;have E:=d (D.length - (j+1));simp only
   rw[o,show D.length - j=D.length - (j+1)+1 by omega,aX lc,kI (by rw[MD];exact a),bm,f9,FR a,bm];simp only[bm,f9,FR a];rw[d6];have g:bQ (bB (sB D n (n+1) (D.length - (j+1)+1)) (D.length - (j+1)) (ef D n (D.length - (j+1))+1)) (D.length - (j+1))=some (ef D n (D.length - (j+1))+1):=Ph (FR a);rw[g,bm,cE,getD_some 0 a,bm,aW dQ]
   try simp only[bm,f9,g]
   rw[YW,<-u,Qv,MD,MD,be,bm,RW];congr 4;omega
  ·by_cases a:k=D.length
   ·rw[aj a,a];simp only
    rw[aW zM,zbc,agj]
   ·rw[ak a];have c:D.length - (k+1)<D.length:=by omega
    have o:(D.length:Int) - k - 1=((D.length - (k+1):Nat):Int):=by omega
    have b:=i k (IT _);rw[show D.length - k=D.length - (k+1)+1 by omega] at b;obtain⟨m,s⟩:=OJ f c b;have l:=(v.resolve_left a);have hx:ef D n (D.length - (k+1))+1<D.getD (D.length - (k+1)) 0:=by
     rcases Decidable.em (ef D n (D.length - (k+1))+1<D.getD (D.length - (k+1)) 0) with h|h
     ·exact h
     ·exact absurd (s h).2 l
    obtain⟨u,z⟩:=m hx;have E:=d (D.length - (k+1));simp only
    rw[o,show D.length - k=D.length - (k+1)+1 by omega,aX lc,kI (by rw[MD];exact c),bm,f9,FR c,bm];simp only[bm,f9,FR c];rw[d6];have g:bQ (bB (sB D n (n+1) (D.length - (k+1)+1)) (D.length - (k+1)) (ef D n (D.length - (k+1))+1)) (D.length - (k+1))=some (ef D n (D.length - (k+1))+1):=Ph (FR c);rw[g,bm,cE,getD_some 0 c,bm,aX dg];rw[<-u,Qv];have er:sB D n (n+1) (D.length - (k+1))=aM D (n+1):=ko fun q hq=>by
     by_cases h:D.length - (k+1)<=q
     ·rw[aj h]
     ·rw[ak h,abE f (by omega) l (by omega)]
    rw[er,rJ (by show ab (aM D (n+1))=ab (aM D n);unfold aM;rw[FL,FL]),bm];rfl
  ·rw[F,zbC,agk]
 ·cases h
theorem zw {D:U} {n i:Nat} (a:i<D.length):(aM D n).getD i 0=ef D n i:=by rw[By,aM,rI _ a];rfl
theorem XW {D:U} (a:jG D) {n:Nat} (hn:n<aC D):∀j,j<=D.length->jQ D (aM D n) j=n/dV D j
 |0,_=>by rw[R5,zbF hn];rfl
 |j+1,hj=>by rw[jQ,XW a hn j (by omega),zw (by omega),ef,AN,B2 (by omega),IS (D.getD j 0).toNat,<-za7,IS,zaY]
theorem ah5 {D:U} (a:jG D) {n:Nat} (hn:n<aC D) (b:aC D<=1048576):xf (D,aM D n)=some (decide (n+1<aC D),aM D (n+1)):=by have e:=XW a hn D.length (IT _);rw[uF,zb3] at e;simp only[xf,e];rw[aj ⟨a,trivial,hn,b⟩]
theorem QR (n:Nat) (f:Nat->Int):dn (dd n f) [f n]=dd (n+1) f:=by unfold dn dd;rw[zbO,zbb];rfl
theorem asm {D:U} (hD:jG D):cR (ab D) (0:Int)=aM D 0:=by rw[YD];refine ko fun i _=>?_;simp[ef]
def Cm:U×U->Option Bool:=fun x=>if x.1.length<=1048576/\x.2.length<=1048576 then some (decide (x.1=x.2)) else none
def Eo:U×U->Option Bool:=Cm
def Tw (NN:Nat):(U×U)->(Option Bool):=
 (fun((l0,l1):(U×U))=>
 bK (cj NN (fun((l2,l3,l4,i5,i6):(U×(U×(U×(Int×Int)))))=>
 au (bO i6 i5)
 ((bF l4 i6).ae (fun i7=>
 au (fR (aD (ab l3)) i6)
 (some (AI (AI false)))
 ((bF l3 i6).ae (fun i8=>
 au (fy i8 i7)
 (some (AI (AI false)))
 (some (co (l2,l3,l4,i5,bo .i64 i6 1)))))))
 (some (AI (co (l2,l3)))))
 (l0,l1,l0,aD (ab l0),(0:Int)))
 (fun(l9,bS)=>
 some (cu (aD (ab l9)) (aD (ab bS)))))
def SE (NN:Nat):(U×U)->(Option Bool):=
 (fun((l0,l1):(U×U))=>
 au (fy (aD (ab l0)) (aD (ab l1)))
 (some false)
 (bK (cj NN (fun((l2,l3,i4,i5):(U×(U×(Int×Int))))=>
 au (bO i5 i4)
 ((bF l2 i5).ae (fun i6=>
 (bF l3 i5).ae (fun i7=>
 au (fy i6 i7)
 (some (AI (AI false)))
 (some (co (l2,l3,i4,bo .i64 i5 1))))))
 (some (AI (co ()))))
 (l0,l1,aD (ab l0),(0:Int)))
 (fun _=>
 some true)))
theorem OR {x y:U} (h:x.length=y.length):(x=y)↔∀k,k<x.length->x.getD k 0=y.getD (0+k) 0:=by constructor;rintro rfl k _;rw[zan];intro b;apply Pd;intro k;by_cases a:k<x.length;have:=b k a;rw[zan] at this;rw[getD_some 0 a,getD_some 0 (show k<y.length by omega),this];rw[GB (by omega),GB (by omega)]
theorem apc (x:U×U) (y:Bool) (h:Eo x=some y):SE aN x=some y:=by
 obtain⟨D,ix⟩:=x;simp only[Eo,Cm] at h;split at h
 ·rename_i d;obtain⟨h1,h2⟩:=d;rw[<-h];simp only[SE];by_cases hl:D.length=ix.length
  ·rw[aW (me (by simp only[nl,hl]))];rw[afZ D (fun(_:Unit) i=>(D,ix,aD (ab D),(i:Int))) (fun _ _=>True) (fun i _ v=>if decide (v=ix.getD i 0)=true then some () else none) (AI false) (fun _=>co ()) ?_ ?_ ?_ (s:=()) trivial ?_ dE]
   ·rw[Vd (fun i v=>decide (v=ix.getD i 0)) 0];by_cases b:∀k,k<D.length->decide (D.getD k 0=ix.getD (0+k) 0)=true
    ·rw[aj b,decide_eq_true ((OR hl).2 fun k c=>of_decide_eq_true (b k c))];rfl
    ·rw[ak b,decide_eq_false (fun h=>b fun k c=>decide_eq_true ((OR hl).1 h k c))];rfl
   all_goals try simp only
   ·intro i _ v a _;have hi:=DC a;rw[aX (ph a),cE,a,bm,cE,getD_some 0 (show i<ix.length by omega),bm];by_cases q:v=ix.getD i 0
    ·rw[aW (me q),aj (decide_eq_true q),tw a (by omega)]
    ·rw[aX (qJ q),ak (fun h=>q (of_decide_eq_true h))]
   ·intros;trivial
   ·intro _ _;rw[aW (iQ D)]
   ·rfl
  ·rw[aX (qJ (by simp only[nl];omega)),decide_eq_false (fun e=>hl (by rw[e]))]
 ·cases h
theorem aqg (x:U×U) (y:Bool) (h:Cm x=some y):Tw aN x=some y:=by
 obtain⟨D,ix⟩:=x;simp only[Cm] at h;split at h
 ·rename_i d;obtain⟨h1,h2⟩:=d;rw[<-h];simp only[Tw];rw[afZ D (fun(_:Unit) i=>(D,ix,D,aD (ab D),(i:Int))) (fun _ _=>True) (fun i _ v=>if(decide (i<ix.length)&&decide (v=ix.getD i 0))=true then some () else none) (AI false) (fun _=>co (D,ix)) ?_ ?_ ?_ (s:=()) trivial ?_ dE]
  ·rw[Vd (fun i v=>decide (i<ix.length)&&decide (v=ix.getD i 0)) 0];by_cases hl:D.length=ix.length
   ·by_cases a:∀k,k<D.length->(decide (0+k<ix.length)&&decide (D.getD k 0=ix.getD (0+k) 0))=true
    ·rw[aj a,decide_eq_true ((OR hl).2 fun k c=>by have:=a k c;simp only[AT,decide_eq_true_eq] at this;exact this.2)];simp only[io];rw[uV (by simp only[nl,hl])]
    ·rw[ak a,decide_eq_false (fun h=>a fun k c=>by simp only[AT,decide_eq_true_eq];exact⟨by omega,(OR hl).1 h k c⟩)];rfl
   ·rw[decide_eq_false (fun e=>hl (by rw[e]))];split
    ·simp only[io];rw[nw (by simp only[nl];omega)]
    ·rfl
  all_goals try simp only
  ·intro i _ v b _;have hi:=DC b;rw[aX (ph b),cE,b,bm];by_cases a:i<ix.length
   ·rw[aW (zM (by rw[nl];omega)),cE,getD_some 0 a,bm];by_cases q:v=ix.getD i 0
    ·rw[aW (me q.symm),aj (by rw[decide_eq_true a,decide_eq_true q];rfl),tw b (by omega)]
    ·rw[aX (qJ (fun e=>q e.symm)),ak (by rw[decide_eq_true a,decide_eq_false q];simp)]
   ·rw[aX (lc (by rw[nl];omega)),ak (by rw[decide_eq_false a];simp)]
  ·intros;trivial
  ·intro _ _;rw[aW (iQ D)]
  ·rfl
 ·cases h
def eG:Int×Int×Int->Bool:=fun((k,p,n):Int×Int×Int)=>
 if k=1 then decide (p=0/\n=0) else if k=2 then jY p&&decide (n=0) else if k=3\/k=4\/k=5 then decide ((1<=p/\p<=1000000)/\n=0)
 else if k=6 then decide (p=0/\1<=n/\n<=20) else if k=7 then jY p&&decide (1<=n/\n<=6) else if k=8 then jY p&&decide (p≠2/\n=0) else false
def lr:Int×Int×Int->Int:=fun((k,p,n):Int×Int×Int)=>if k=7 then n else if k=8 then 4 else 1
def ax (r:Int×Int×Int):Nat:=(lr r).toNat
def dO:Int×Int×Int->Int:=fun((k,p,n):Int×Int×Int)=>if k=1 then 1 else if k=3\/k=4\/k=5 then p else if k=6 then 2^n.toNat - 1 else p - 1
def sd (t v:Int):Bool:=decide (0<=v/\v<=t)
def eV (r:Int×Int×Int) (x:U):Bool:=decide (x.length=ax r)&&x.all (sd (dO r))
def eX:Int×Int×Int->U:=fun((k,p,n):Int×Int×Int)=>if k=4 then[p] else cR (ax (k,p,n)) 0
def Jl:Int×Int×Int->U:=fun((k,p,n):Int×Int×Int)=>bB (cR (ax (k,p,n)) 0) 0 (if k=4 then 0 else if k=5\/k=6 then dO (k,p,n) else 1)
def j3:Int×Int×Int->Int->Int->Int:=fun((k,p,n):Int×Int×Int) a b=>
 if k=1\/k=6 then((a.toNat|||b.toNat:Nat):Int) else if k=3 then min (a+b) p else if k=4 then min a b else if k=5 then max a b else(a+b)%p
def sm:Nat->(Nat->Int)->Int
 |0,_=>0
 |n+1,f=>sm n f+f n
def kW (om:Bool) (x y:Nat->Int) (t i j:Nat):Int:=if i+j=t then x i*y j else if om=true/\i+j=t+4 then -(x i*y j) else 0
def gV (w:Nat) (f:Nat->Int):U:=(zal w).map f
def bR (x:U):Nat->Int:=fun i=>x.getD i 0
def fV (r:Int×Int×Int) (x y:U):U:=gV (ax r) fun j=>j3 r (bR x j) (bR y j)
def uT (p:Int) (om:Bool) (w:Nat) (x y:Nat->Int):U:=gV w fun t=>sm w (fun i=>sm w (fun j=>kW om x y t i j))%p
def nU:Int×Int×Int->Int->Int->Int:=fun((k,p,n):Int×Int×Int) a b=>
 if k=1\/k=6 then((a.toNat&&&b.toNat:Nat):Int) else if k=2 then a*b%p else if k=3 then min (a*b) p else if k=4 then min (a+b) p else min a b
def mR (r:Int×Int×Int) (x y:U):U:=if r.1=7\/r.1=8 then uT r.2.1 (decide (r.1=8)) (ax r) (bR x) (bR y) else[nU r (bR x 0) (bR y 0)]
def GY:Int×Int×Int->Option Bool:=fun r=>some (eG r)
def GI:Int×Int×Int->Option Bool:=fun r=>some (eG r)
def yE:Int×Int×Int->Option Int:=fun r=>some (lr r)
def tM:Int×Int×Int->Option Int:=fun r=>some (lr r)
def Kq:Int×Int×Int->Option Int:=fun r=>if eG r=true then some (dO r) else none
def GQ:Int×Int×Int->Option Int:=fun r=>if eG r=true then some (dO r) else none
def GL:(Int×Int×Int)×U->Option Bool:=fun((r,x):(Int×Int×Int)×U)=>if eG r=true/\x.length<=9223372036854775806 then some (x.all (sd (dO r))) else none
def Ev:Int×Int×Int->Option U:=fun r=>if eG r=true then some (eX r) else none
def Cd:Int×Int×Int->Option U:=fun r=>if eG r=true then some (eX r) else none
def Cl:(Int×Int×Int)×U×U->Option U:=fun((r,x,y):(Int×Int×Int)×U×U)=>if eG r=true/\eV r x=true/\eV r y=true then some (fV r x y) else none
def Es:(Int×Int×Int)×U×U×U->Option U:=fun((r,l,x,y):(Int×Int×Int)×U×U×U)=>
 if(eG r=true/\(r.1=7\/r.1=8))/\l.length=ax r/\eV r x=true/\eV r y=true then some (mR r x y) else none
def GO:(Int×Int×Int)×U×U×U->Option U:=fun((r,l,x,y):(Int×Int×Int)×U×U×U)=>
 if eG r=true/\l.length=ax r/\eV r x=true/\eV r y=true then some (mR r x y) else none
def GZ:(Int×Int×Int)×U×U->Option U:=fun((r,x,y):(Int×Int×Int)×U×U)=>if eG r=true/\eV r x=true/\eV r y=true then some (mR r x y) else none
def Eu:Int×Int×Int->Option (Int×Int×Int):=fun r=>some r
def aai (NN:Nat):(Int×(Int×Int))->(Option (Int×(Int×Int))):=
 (fun((i0,i1,i2):(Int×(Int×Int)))=>
 some (i0,i1,i2))
def Ss (NN:Nat):(Int×(Int×Int))->(Option Bool):=
 (fun((i0,i1,i2):(Int×(Int×Int)))=>
 au (cu i0 (1:Int))
 (au (cu i1 (0:Int))
 (some (cu i2 (0:Int)))
 (some false))
 (au (cu i0 (2:Int))
 ((B9 i1).ae (fun b3=>
 au (b3)
 (some (cu i2 (0:Int)))
 (some false)))
 (bK (au (cu i0 (3:Int))
 (some (co ((true,i0),i0,i1,i2)))
 (au (cu i0 (4:Int))
 (some (co ((true,i0),i0,i1,i2)))
 (some (co ((cu i0 (5:Int),i0),i0,i1,i2)))))
 (fun((b4,i5),i6,i7,i8)=>
 au (b4)
 (au (fR (1:Int) i7)
 (au (fR i7 (1000000:Int))
 (some (cu i8 (0:Int)))
 (some false))
 (some false))
 (au (cu i5 (6:Int))
 (au (cu i7 (0:Int))
 (au (fR (1:Int) i8)
 (some (fR i8 (20:Int)))
 (some false))
 (some false))
 (au (cu i5 (7:Int))
 ((B9 i7).ae (fun b9=>
 au (b9)
 (au (fR (1:Int) i8)
 (some (fR i8 (6:Int)))
 (some false))
 (some false)))
 (au (cu i5 (8:Int))
 ((B9 i7).ae (fun qf=>
 au (qf)
 (au (fy i7 (2:Int))
 (some (cu i8 (0:Int)))
 (some false))
 (some false)))
 (some false))))))))
def Tg (NN:Nat):(Int×(Int×Int))->(Option Bool):=
 (fun((i0,i1,i2):(Int×(Int×Int)))=>
 au (cu i0 (1:Int))
 (au (cu i1 (0:Int))
 (some (cu i2 (0:Int)))
 (some false))
 (au (cu i0 (2:Int))
 ((Cj i1).ae (fun b3=>
 au (b3)
 (some (cu i2 (0:Int)))
 (some false)))
 (bK (au (cu i0 (3:Int))
 (some (co ((true,i0),i0,i1,i2)))
 (au (cu i0 (4:Int))
 (some (co ((true,i0),i0,i1,i2)))
 (some (co ((cu i0 (5:Int),i0),i0,i1,i2)))))
 (fun((b4,i5),i6,i7,i8)=>
 au (b4)
 ((nY (i7,(1:Int),(1000000:Int))).ae (fun b9=>
 au (b9)
 (some (cu i8 (0:Int)))
 (some false)))
 (au (cu i5 (6:Int))
 (au (cu i7 (0:Int))
 ((nY (i8,(1:Int),(20:Int))).ae (fun qf=>
 some qf))
 (some false))
 (au (cu i5 (7:Int))
 ((Cj i7).ae (fun KM=>
 au (KM)
 ((nY (i8,(1:Int),(6:Int))).ae (fun Ar=>
 some Ar))
 (some false)))
 (au (cu i5 (8:Int))
 ((Cj i7).ae (fun As=>
 au (As)
 (au (bO (2:Int) i7)
 (some (cu i8 (0:Int)))
 (some false))
 (some false)))
 (some false))))))))
def SP (NN:Nat):(Int×(Int×Int))->(Option Int):=
 (fun((i0,i1,i2):(Int×(Int×Int)))=>
 au (cu i0 (7:Int))
 (some i2)
 (au (cu i0 (8:Int))
 (some (4:Int))
 (some (1:Int))))
def aak (NN:Nat):(Int×(Int×Int))->(Option Int):=
 (fun((i0,i1,i2):(Int×(Int×Int)))=>
 au (cu i0 (7:Int))
 (some i2)
 (au (cu i0 (8:Int))
 (some (4:Int))
 (some (1:Int))))
def aae (NN:Nat):(Int×(Int×Int))->(Option Int):=
 (fun((i0,i1,i2):(Int×(Int×Int)))=>
 au (cu i0 (1:Int))
 (some (1:Int))
 (bK (au (cu i0 (3:Int))
 (some (co ((true,i0),i0,i1,i2)))
 (au (cu i0 (4:Int))
 (some (co ((true,i0),i0,i1,i2)))
 (some (co ((cu i0 (5:Int),i0),i0,i1,i2)))))
 (fun((b3,i4),i5,i6,i7)=>
 au (b3)
 (some i6)
 (au (cu i4 (6:Int))
 ((D8 .i64 (1:Int) i7).ae (fun i8=>
 some (iw .i64 i8 1)))
 (some (iw .i64 i6 1))))))
def aaj (NN:Nat):(Int×(Int×Int))->(Option Int):=
 (fun((i0,i1,i2):(Int×(Int×Int)))=>
 au (cu i0 (1:Int))
 (some (1:Int))
 (bK (au (cu i0 (3:Int))
 (some (co ((true,i0),i0,i1,i2)))
 (au (cu i0 (4:Int))
 (some (co ((true,i0),i0,i1,i2)))
 (some (co ((cu i0 (5:Int),i0),i0,i1,i2)))))
 (fun((b3,i4),i5,i6,i7)=>
 au (b3)
 (some i6)
 (au (cu i4 (6:Int))
 ((D8 .i64 (1:Int) i7).ae (fun i8=>
 some (iw .i64 i8 1)))
 (some (iw .i64 i6 1))))))
def SI (NN:Nat):((Int×(Int×Int))×U)->(Option Bool):=
 (fun(((i0,i1,i2),l3):((Int×(Int×Int))×U))=>
 (GQ (i0,i1,i2)).ae (fun i4=>
 bK (cj NN (fun((i5,l6,i7,i8):(Int×(U×(Int×Int))))=>
 au (bO i8 i7)
 ((bF l6 i8).ae (fun i9=>
 au (bO i9 (0:Int))
 (some (AI (AI false)))
 (au (bO i5 i9)
 (some (AI (AI false)))
 (some (co (i5,l6,i7,bo .i64 i8 1))))))
 (some (AI (co ()))))
 (i4,l3,aD (ab l3),(0:Int)))
 (fun _=>
 some true)))
def SQ (NN:Nat):(Int×(Int×Int))->(Option U):=
 (fun((i0,i1,i2):(Int×(Int×Int)))=>
 (tM (i0,i1,i2)).ae (fun i3=>
 (kB i3 i3 8).ae (fun k4=>
 bK (au (cu i0 (4:Int))
 ((cN (0:Int) k4).ae (fun k5=>
 (bQ (cR k4 (0:Int)) (av 0 k5)).ae (fun i6=>
 (aO 0 k4 (ab (bB (cR k4 (0:Int)) (av 0 k5) i1))).ae (fun _=>
 some (co (bB (cR k4 (0:Int)) (av 0 k5) i1))))))
 ((aO 0 k4 (ab (cR k4 (0:Int)))).ae (fun _=>
 some (co (cR k4 (0:Int))))))
 (fun l7=>
 (ed l7 (ab l7)).ae (fun l8=>
 some l8)))))
def aal (NN:Nat):(Int×(Int×Int))->(Option U):=
 (fun((i0,i1,i2):(Int×(Int×Int)))=>
 (yE (i0,i1,i2)).ae (fun i3=>
 (kB i3 i3 8).ae (fun k4=>
 bK (au (cu i0 (4:Int))
 ((cN (0:Int) k4).ae (fun k5=>
 (bQ (cR k4 (0:Int)) (av 0 k5)).ae (fun i6=>
 (aO 0 k4 (ab (bB (cR k4 (0:Int)) (av 0 k5) i1))).ae (fun _=>
 some (co (bB (cR k4 (0:Int)) (av 0 k5) i1))))))
 ((aO 0 k4 (ab (cR k4 (0:Int)))).ae (fun _=>
 some (co (cR k4 (0:Int))))))
 (fun l7=>
 (ed l7 (ab l7)).ae (fun l8=>
 some l8)))))
def Tk (NN:Nat):((Int×(Int×Int))×(U×U))->(Option U):=
 (fun(((i0,i1,i2),l3,l4):((Int×(Int×Int))×(U×U)))=>
 (kB (aD (ab l3)) (aD (ab l3)) 8).ae (fun k5=>
 bK ((aO 0 k5 (ab (cR k5 (0:Int)))).ae (fun _=>
 cj NN (fun(((l6,l7,i8,i9),(fO,dX,eC),cM):((U×(U×(Int×Int)))×((Int×(Int×Int))×U)))=>
 au (bO i9 i8)
 (bK (au (cu fO (1:Int))
 (ah cM (
 some (co ((true,fO,i9,i9,l6,l7,i8),(fO,dX,eC),cM))))
 (ah cM (
 some (co ((cu fO (6:Int),fO,i9,i9,l6,l7,i8),(fO,dX,eC),cM)))))
 (fun((ED,iG,fH,gA,d7,eY,fw),(fP,kY,gT),dq)=>
 au (ED)
 ((bF d7 fH).ae (fun oe=>
 (bF eY fH).ae (fun nD=>
 (cN fH (ab dq)).ae (fun Xe=>
 (bQ dq (av 0 Xe)).ae (fun lW=>
 (aO 0 (ab dq) (ab (bB dq (av 0 Xe) (DQ .i64 oe nD)))).ae (fun _=>
 some (co ((d7,eY,fw,bo .i64 gA 1),(fP,kY,gT),bB dq (av 0 Xe) (DQ .i64 oe nD)))))))))
 (au (cu iG (3:Int))
 ((bF d7 fH).ae (fun tf=>
 (bF eY fH).ae (fun kl=>
 (cN fH (ab dq)).ae (fun x7=>
 (bQ dq (av 0 x7)).ae (fun Dd=>
 (aO 0 (ab dq) (ab (bB dq (av 0 x7) (iM (bo .i64 tf kl) kY)))).ae (fun _=>
 some (co ((d7,eY,fw,bo .i64 gA 1),(fP,kY,gT),bB dq (av 0 x7) (iM (bo .i64 tf kl) kY)))))))))
 (au (cu iG (4:Int))
 ((bF d7 fH).ae (fun Br=>
 (bF eY fH).ae (fun qt=>
 (cN fH (ab dq)).ae (fun Xf=>
 (bQ dq (av 0 Xf)).ae (fun ub=>
 (aO 0 (ab dq) (ab (bB dq (av 0 Xf) (iM Br qt)))).ae (fun _=>
 some (co ((d7,eY,fw,bo .i64 gA 1),(fP,kY,gT),bB dq (av 0 Xf) (iM Br qt)))))))))
 (au (cu iG (5:Int))
 ((bF d7 fH).ae (fun zr=>
 (bF eY fH).ae (fun kZ=>
 (cN fH (ab dq)).ae (fun BC=>
 (bQ dq (av 0 BC)).ae (fun xT=>
 (aO 0 (ab dq) (ab (bB dq (av 0 BC) (wF zr kZ)))).ae (fun _=>
 some (co ((d7,eY,fw,bo .i64 gA 1),(fP,kY,gT),bB dq (av 0 BC) (wF zr kZ)))))))))
 ((bF d7 fH).ae (fun nE=>
 (bF eY fH).ae (fun qu=>
 (hZ (bo .i64 nE qu) kY).ae (fun pQ=>
 (cN fH (ab dq)).ae (fun Xi=>
 (bQ dq (av 0 Xi)).ae (fun kM=>
 (aO 0 (ab dq) (ab (bB dq (av 0 Xi) pQ))).ae (fun _=>
 some (co ((d7,eY,fw,bo .i64 gA 1),(fP,kY,gT),bB dq (av 0 Xi) pQ))))))))))))))
 ((ah cM (
 some (co cM))).ae (fun mP=>
 some (AI mP))))
 ((l3,l4,aD (ab l3),(0:Int)),(i0,i1,i2),cR k5 (0:Int))))
 (fun ja=>
 (ed ja (ab ja)).ae (fun jO=>
 some jO))))
def SJ (NN:Nat):((Int×(Int×Int))×(U×(U×U)))->(Option U):=
 (fun(((i0,i1,i2),l3,l4,l5):((Int×(Int×Int))×(U×(U×U))))=>
 (HP l3 0 (ab l3) (cR (ab l3) (0:Int))).ae (fun l6=>
 (aO 0 (ab l3) (ab l6)).ae (fun _=>
 cj NN (fun(((l7,l8,i9,fO),cZ,eC,fG,gf):((U×(U×(Int×Int)))×(U×(Int×(Int×Int)))))=>
 au (bO fO i9)
 (bK (ah cZ (
 cj NN (fun(((dk,dm,gA,g9,kV,fw,fP),dP,gT,il,oe):((U×(U×(Int×(Int×(Int×(Int×Int))))))×(U×(Int×(Int×Int)))))=>
 au (bO fP fw)
 ((bF dk gA).ae (fun nD=>
 (bF dm fP).ae (fun jX=>
 (hZ (f6 .i64 nD jX) il).ae (fun lW=>
 au (bO (bo .i64 gA fP) (aD (ab dP)))
 ((cN (bo .i64 gA fP) (ab dP)).ae (fun Bz=>
 (bQ dP (av 0 Bz)).ae (fun kl=>
 (hZ (bo .i64 kl lW) il).ae (fun rq=>
 (cN (bo .i64 gA fP) (ab dP)).ae (fun zB=>
 (bQ dP (av 0 zB)).ae (fun Br=>
 (aO 0 (ab dP) (ab (bB dP (av 0 zB) rq))).ae (fun _=>
 some (co ((dk,dm,gA,g9,kV,fw,bo .i64 fP 1),bB dP (av 0 zB) rq,gT,il,oe)))))))))
 (au (cu gT (8:Int))
 ((cN (iw .i64 (bo .i64 gA fP) (4:Int)) (ab dP)).ae (fun zC=>
 (bQ dP (av 0 zC)).ae (fun zq=>
 (hZ (iw .i64 (bo .i64 zq il) lW) il).ae (fun ub=>
 (cN (iw .i64 (bo .i64 gA fP) (4:Int)) (ab dP)).ae (fun BB=>
 (bQ dP (av 0 BB)).ae (fun kZ=>
 (aO 0 (ab dP) (ab (bB dP (av 0 BB) ub))).ae (fun _=>
 some (co ((dk,dm,gA,g9,kV,fw,bo .i64 fP 1),bB dP (av 0 BB) ub,gT,il,oe)))))))))
 (ah dP (
 some (co ((dk,dm,gA,g9,kV,fw,bo .i64 fP 1),dP,gT,il,oe)))))))))
 ((ah dP (
 some (co ((kV,dk,dm,g9),dP,gT,il,oe)))).ae (fun o6=>
 some (AI o6))))
 ((l7,l8,fO,i9,fO,aD (ab l8),(0:Int)),cZ,eC,fG,gf)))
 (fun((xT,o7,nf,pQ),jh,kM,oh,Bt)=>
 ah jh (
 some (co ((o7,nf,pQ,bo .i64 xT 1),jh,kM,oh,Bt)))))
 (((kq (ab cZ) (ab l3)).ae (fun _=>
 some cZ)).ae (fun jO=>
 some (AI jO))))
 ((l4,l5,aD (ab l4),(0:Int)),l6,i0,i1,i2))))
def NU (NN:Nat):((Int×(Int×Int))×(U×(U×U)))->(Option U):=
 (fun(((i0,i1,i2),l3,l4,l5):((Int×(Int×Int))×(U×(U×U))))=>
 bK (au (cu i0 (1:Int))
 (ah l3 (
 some (co ((true,i0,l4,l5),l3,i0,i1,i2))))
 (ah l3 (
 some (co ((cu i0 (5:Int),i0,l4,l5),l3,i0,i1,i2)))))
 (fun((b6,i7,l8,l9),bS,dX,eC,fG)=>
 au (b6)
 ((bF l8 (0:Int)).ae (fun gf=>
 (bF l9 (0:Int)).ae (fun iG=>
 (cN (0:Int) (ab bS)).ae (fun FE=>
 (bQ bS (av 0 FE)).ae (fun gA=>
 (kq (ab (bB bS (av 0 FE) (iM gf iG))) (ab l3)).ae (fun _=>
 some (bB bS (av 0 FE) (iM gf iG))))))))
 (au (cu i7 (2:Int))
 ((bF l8 (0:Int)).ae (fun g9=>
 (bF l9 (0:Int)).ae (fun kV=>
 (hZ (f6 .i64 g9 kV) eC).ae (fun fw=>
 (cN (0:Int) (ab bS)).ae (fun x5=>
 (bQ bS (av 0 x5)).ae (fun kY=>
 (kq (ab (bB bS (av 0 x5) fw)) (ab l3)).ae (fun _=>
 some (bB bS (av 0 x5) fw))))))))
 (au (cu i7 (3:Int))
 ((bF l8 (0:Int)).ae (fun gT=>
 (bF l9 (0:Int)).ae (fun il=>
 (cN (0:Int) (ab bS)).ae (fun x6=>
 (bQ bS (av 0 x6)).ae (fun nD=>
 (kq (ab (bB bS (av 0 x6) (iM (f6 .i64 gT il) eC))) (ab l3)).ae (fun _=>
 some (bB bS (av 0 x6) (iM (f6 .i64 gT il) eC))))))))
 (au (cu i7 (4:Int))
 ((bF l8 (0:Int)).ae (fun jX=>
 (bF l9 (0:Int)).ae (fun lW=>
 (cN (0:Int) (ab bS)).ae (fun Bz=>
 (bQ bS (av 0 Bz)).ae (fun kl=>
 (kq (ab (bB bS (av 0 Bz) (iM (bo .i64 jX lW) eC))) (ab l3)).ae (fun _=>
 some (bB bS (av 0 Bz) (iM (bo .i64 jX lW) eC))))))))
 (au (cu i7 (6:Int))
 ((bF l8 (0:Int)).ae (fun rq=>
 (bF l9 (0:Int)).ae (fun Dd=>
 (cN (0:Int) (ab bS)).ae (fun BA=>
 (bQ bS (av 0 BA)).ae (fun qt=>
 (kq (ab (bB bS (av 0 BA) (yM .i64 rq Dd))) (ab l3)).ae (fun _=>
 some (bB bS (av 0 BA) (yM .i64 rq Dd))))))))
 (ah bS (
 (Es ((dX,eC,fG),bS,l8,l9)).ae (fun gp=>
 (kq (ab gp) (ab l3)).ae (fun _=>
 some gp))))))))))
def Tl (NN:Nat):((Int×(Int×Int))×(U×U))->(Option U):=
 (fun(((i0,i1,i2),l3,l4):((Int×(Int×Int))×(U×U)))=>
 (kB (aD (ab l3)) (aD (ab l3)) 8).ae (fun k5=>
 bK (bK (au (cu i0 (1:Int))
 ((aO 0 k5 (ab (cR k5 (0:Int)))).ae (fun _=>
 some (co ((true,i0,l3,l4),(i0,i1,i2),cR k5 (0:Int)))))
 ((aO 0 k5 (ab (cR k5 (0:Int)))).ae (fun _=>
 some (co ((cu i0 (6:Int),i0,l3,l4),(i0,i1,i2),cR k5 (0:Int))))))
 (fun((b6,i7,l8,l9),(fO,dX,eC),cM)=>
 au (b6)
 ((bF l8 (0:Int)).ae (fun gf=>
 (bF l9 (0:Int)).ae (fun iG=>
 (cN (0:Int) (ab cM)).ae (fun FE=>
 (bQ cM (av 0 FE)).ae (fun gA=>
 (aO 0 (ab cM) (ab (bB cM (av 0 FE) (yM .i64 gf iG)))).ae (fun _=>
 some (co (bB cM (av 0 FE) (yM .i64 gf iG)))))))))
 (au (cu i7 (2:Int))
 ((bF l8 (0:Int)).ae (fun g9=>
 (bF l9 (0:Int)).ae (fun kV=>
 (hZ (f6 .i64 g9 kV) dX).ae (fun fw=>
 (cN (0:Int) (ab cM)).ae (fun x5=>
 (bQ cM (av 0 x5)).ae (fun kY=>
 (aO 0 (ab cM) (ab (bB cM (av 0 x5) fw))).ae (fun _=>
 some (co (bB cM (av 0 x5) fw)))))))))
 (au (cu i7 (3:Int))
 ((bF l8 (0:Int)).ae (fun gT=>
 (bF l9 (0:Int)).ae (fun il=>
 (cN (0:Int) (ab cM)).ae (fun x6=>
 (bQ cM (av 0 x6)).ae (fun nD=>
 (aO 0 (ab cM) (ab (bB cM (av 0 x6) (iM (f6 .i64 gT il) dX)))).ae (fun _=>
 some (co (bB cM (av 0 x6) (iM (f6 .i64 gT il) dX)))))))))
 (au (cu i7 (4:Int))
 ((bF l8 (0:Int)).ae (fun jX=>
 (bF l9 (0:Int)).ae (fun lW=>
 (cN (0:Int) (ab cM)).ae (fun Bz=>
 (bQ cM (av 0 Bz)).ae (fun kl=>
 (aO 0 (ab cM) (ab (bB cM (av 0 Bz) (iM (bo .i64 jX lW) dX)))).ae (fun _=>
 some (co (bB cM (av 0 Bz) (iM (bo .i64 jX lW) dX)))))))))
 (au (cu i7 (5:Int))
 ((bF l8 (0:Int)).ae (fun rq=>
 (bF l9 (0:Int)).ae (fun Dd=>
 (cN (0:Int) (ab cM)).ae (fun BA=>
 (bQ cM (av 0 BA)).ae (fun qt=>
 (aO 0 (ab cM) (ab (bB cM (av 0 BA) (iM rq Dd)))).ae (fun _=>
 some (co (bB cM (av 0 BA) (iM rq Dd)))))))))
 (ah cM (
 cj NN (fun(((gp,iL,zr,kZ),(ud,xT,nE),nf):((U×(U×(Int×Int)))×((Int×(Int×Int))×U)))=>
 au (bO kZ zr)
 (bK ((bF iL kZ).ae (fun pQ=>
 ah nf (
 cj NN (fun(((jh,kM,oh,ja,ue,tg,j0,vh,vi),(ww,vj,De),iu):((U×(Int×(Int×(U×(Int×(Int×(U×(Int×Int))))))))×((Int×(Int×Int))×U)))=>
 au (bO vi vh)
 ((bF j0 vi).ae (fun Fw=>
 au (bO (bo .i64 kM vi) (aD (ab iu)))
 ((cN (bo .i64 kM vi) (ab iu)).ae (fun k58=>
 (bQ iu (av 0 k58)).ae (fun Df=>
 (hZ (bo .i64 Df (f6 .i64 oh Fw)) vj).ae (fun xV=>
 (cN (bo .i64 kM vi) (ab iu)).ae (fun Xk=>
 (bQ iu (av 0 Xk)).ae (fun WR=>
 (aO 0 (ab iu) (ab (bB iu (av 0 Xk) xV))).ae (fun _=>
 some (co ((jh,kM,oh,ja,ue,tg,j0,vh,bo .i64 vi 1),(ww,vj,De),bB iu (av 0 Xk) xV)))))))))
 (au (cu ww (8:Int))
 ((cN (iw .i64 (bo .i64 kM vi) (4:Int)) (ab iu)).ae (fun k63=>
 (bQ iu (av 0 k63)).ae (fun i64=>
 (hZ (bo .i64 i64 (f6 .i64 (iw .i64 vj oh) Fw)) vj).ae (fun zt=>
 (cN (iw .i64 (bo .i64 kM vi) (4:Int)) (ab iu)).ae (fun Mn=>
 (bQ iu (av 0 Mn)).ae (fun rr=>
 (aO 0 (ab iu) (ab (bB iu (av 0 Mn) zt))).ae (fun _=>
 some (co ((jh,kM,oh,ja,ue,tg,j0,vh,bo .i64 vi 1),(ww,vj,De),bB iu (av 0 Mn) zt)))))))))
 (ah iu (
 some (co ((jh,kM,oh,ja,ue,tg,j0,vh,bo .i64 vi 1),(ww,vj,De),iu)))))))
 ((ah iu (
 some (co ((tg,jh,ja,ue),(ww,vj,De),iu)))).ae (fun Qq=>
 some (AI Qq))))
 ((gp,kZ,pQ,iL,zr,kZ,gp,aD (ab gp),(0:Int)),(ud,xT,nE),nf))))
 (fun((IV,sv,pf,Dg),(Dh,Di,IX),nP)=>
 ah nP (
 some (co ((sv,pf,Dg,bo .i64 IV 1),(Dh,Di,IX),nP)))))
 ((ah nf (
 some (co nf))).ae (fun nh=>
 some (AI nh))))
 ((l9,l8,aD (ab l8),(0:Int)),(fO,dX,eC),cM)))))))))
 (fun mb=>
 (ed mb (ab mb)).ae (fun lE=>
 some lE))))
theorem apO (x y:Int×Int×Int) (h:Eu x=some y):aai aN x=some y:=h
theorem aA7 (r:Int×Int×Int):Eu r=some r:=rfl
theorem KY {α:Type} (a b:Int) (x y:α):au (cu a b) x y=if a=b then x else y:=by by_cases h:a=b;rw[aj h,aX (uV h)];rw[ak h,aW (nw h)]
theorem K9 (a b:Int):cu a b=decide (a=b):=by by_cases h:a=b<;>simp[cu,h]
theorem avp (a b:Int):fR a b=decide (a<=b):=rfl
theorem avy (a b:Int):bO a b=decide (a<b):=rfl
theorem Oy {α:Type} (p:Prop) [Decidable p] (x y:α):au (decide p) x y=if p then x else y:=by by_cases h:p;rw[aj h,aX (decide_eq_true h)];rw[ak h,aW (decide_eq_false h)]
theorem sE {k p n:Int} (h:eG (k,p,n)=true):(k=1/\p=0/\n=0)\/(k=2/\jY p=true/\n=0)\/(k=3/\(1<=p/\p<=1000000)/\n=0)\/(k=4/\(1<=p/\p<=1000000)/\n=0)\/(k=5/\(1<=p/\p<=1000000)/\n=0)\/ (k=6/\p=0/\1<=n/\n<=20)\/(k=7/\jY p=true/\1<=n/\n<=6)\/(k=8/\jY p=true/\p≠2/\n=0):=by simp only[eG] at h;by_cases e:k=1;rw[aj e] at h;exact .inl ⟨e,by simpa using h⟩;rw[ak e] at h;by_cases c:k=2;rw[aj c] at h;simp at h;exact .inr (.inl ⟨c,h⟩);rw[ak c] at h;by_cases a:k=3\/k=4\/k=5;rw[aj a] at h;simp only[decide_eq_true_eq] at h;rcases a with a|a|a;exact .inr (.inr (.inl ⟨a,h⟩));exact .inr (.inr (.inr (.inl ⟨a,h⟩)));exact .inr (.inr (.inr (.inr (.inl ⟨a,h⟩))));rw[ak a] at h;by_cases f:k=6;rw[aj f] at h;simp at h;exact .inr (.inr (.inr (.inr (.inr (.inl ⟨f,h⟩)))));rw[ak f] at h;by_cases d:k=7;rw[aj d] at h;simp at h;exact .inr (.inr (.inr (.inr (.inr (.inr (.inl ⟨d,h⟩))))));rw[ak d] at h;by_cases b:k=8;rw[aj b] at h;simp at h;exact .inr (.inr (.inr (.inr (.inr (.inr (.inr ⟨b,h⟩))))));rw[ak b] at h;cases h
theorem ao2 (x:Int×Int×Int) (y:Bool) (h:GI x=some y):Ss aN x=some y:=by
 obtain⟨k,p,n⟩:=x;rw[<-h];simp only[GI,Ss,eG,B9,bm,K9,avp,Oy];by_cases i:k=1
 ·rw[aj i,aj i];by_cases j:p=0<;>by_cases hn:n=0<;>simp[j,hn]
 rw[ak i,ak i];by_cases e:k=2
 ·rw[aj e,aj e];cases jY p<;>rfl
 rw[ak e,ak e];have hd:(if k=3 then some (co ((true,k),k,p,n)) else if k=4 then some (co ((true,k),k,p,n)) else some (co ((decide (k=5),k),k,p,n)):Option (((Bool×Int)×Int×Int×Int)⊕Bool))=some (co ((decide (k=3\/k=4\/k=5),k),k,p,n)):=by
  by_cases b:k=3
  ·simp[b]
  ·by_cases c:k=4
   ·simp[c]
   ·simp[b,c]
 rw[hd,io];simp only[Oy];by_cases b:k=3\/k=4\/k=5
 ·rw[aj b,aj b];by_cases d:1<=p
  ·by_cases a:p<=1000000<;>simp[d,a]
  ·simp[d]
 rw[ak b,ak b];by_cases c:k=6
 ·rw[aj c,aj c];by_cases d:p=0
  ·by_cases a:1<=n<;>simp[d,a]
  ·simp[d]
 rw[ak c,ak c];by_cases g:k=7
 ·rw[aj g,aj g];cases jY p
  ·rfl
  ·rw[aX rfl];by_cases a:1<=n<;>simp[a]
 rw[ak g,ak g];by_cases f:k=8
 ·rw[aj f,aj f];cases jY p
  ·rfl
  ·rw[aX rfl,XQ,zac];by_cases a:p=2<;>simp[a,au]
 rw[ak f,ak f]
theorem apW (x:Int×Int×Int) (y:Bool) (h:GY x=some y):Tg aN x=some y:=by
 obtain⟨k,p,n⟩:=x;rw[<-h];simp only[GY,Tg,eG,Cj,nY,bm,K9,avy,Oy];by_cases f:k=1
 ·rw[aj f,aj f];by_cases i:p=0<;>by_cases hn:n=0<;>simp[i,hn]
 rw[ak f,ak f];by_cases c:k=2
 ·rw[aj c,aj c];cases jY p<;>rfl
 rw[ak c,ak c];have hd:(if k=3 then some (co ((true,k),k,p,n)) else if k=4 then some (co ((true,k),k,p,n)) else some (co ((decide (k=5),k),k,p,n)):Option (((Bool×Int)×Int×Int×Int)⊕Bool))=some (co ((decide (k=3\/k=4\/k=5),k),k,p,n)):=by
  by_cases a:k=3
  ·simp[a]
  ·by_cases b:k=4
   ·simp[b]
   ·simp[a,b]
 rw[hd,io];simp only[Oy];by_cases a:k=3\/k=4\/k=5
 ·rw[aj a,aj a];by_cases g:1<=p/\p<=1000000<;>simp[g]
 rw[ak a,ak a];by_cases b:k=6
 ·rw[aj b,aj b];by_cases g:p=0<;>simp[g]
 rw[ak b,ak b];by_cases e:k=7
 ·rw[aj e,aj e];cases jY p<;>rfl
 rw[ak e,ak e];by_cases d:k=8
 ·rw[aj d,aj d];cases i:jY p
  ·rfl
  ·have:=m8 i;rw[aX rfl,zac];by_cases j:p=2
   ·simp[j]
   ·rw[aj (by omega)];simp[j]
 rw[ak d,ak d]
theorem acd (x:Int×Int×Int) (y:Int) (h:tM x=some y):SP aN x=some y:=by obtain⟨k,p,n⟩:=x;rw[<-h];simp only[tM,SP,lr,KY];by_cases a:k=7;rw[aj a,aj a];rw[ak a,ak a];by_cases b:k=8<;>simp[b]
theorem ap5 (x:Int×Int×Int) (y:Int) (h:yE x=some y):aak aN x=some y:=acd x y h
theorem aAp {n:Int} (a:0<=n) (h1:n<=60):D8 .i64 1 n=some (2^n.toNat):=by obtain⟨m,rfl⟩:=pW a;rw[aAq (by omega),AN];congr 1
theorem aiB {n:Int} (h0:0<=n) (h1:n<=20):1<=(2:Int)^n.toNat/\(2:Int)^n.toNat<=1048576:=by
 have a:(2:Nat)^n.toNat<=2^20:=zaU (by decide) (by omega);have b:1<=(2:Nat)^n.toNat:=Nat.one_le_two_pow;have e:(((2:Nat)^n.toNat:Nat):Int)=(2:Int)^n.toNat:=by push_cast;rfl
 rw[<-e];omega
theorem acb (x:Int×Int×Int) (y:Int) (h:GQ x=some y):aae aN x=some y:=by obtain⟨k,p,n⟩:=x;simp only[GQ] at h;split at h;rename_i hr;rw[<-h];rcases sE hr with⟨rfl,rfl,rfl⟩|⟨rfl,a,rfl⟩|⟨rfl,a,rfl⟩|⟨rfl,a,rfl⟩|⟨rfl,a,rfl⟩|⟨rfl,rfl,hn⟩|⟨rfl,a,hn⟩|⟨rfl,a,ki,rfl⟩;rfl;have:=m8 a;exact congrArg some mT;rfl;rfl;rfl;have h1:=aiB (n:=n) (by omega) hn.2;show(D8 .i64 1 n).ae _=_;rw[aAp (by omega) (by omega),bm,mT];rfl;have:=m8 a;exact congrArg some mT;have:=m8 a;exact congrArg some mT;cases h
theorem ap4 (x:Int×Int×Int) (y:Int) (h:Kq x=some y):aaj aN x=some y:=acb x y h
theorem B4 {r:Int×Int×Int} (h:eG r=true):0<=dO r/\dO r<=1048576:=by obtain⟨k,p,n⟩:=r;rcases sE h with⟨rfl,rfl,rfl⟩|⟨rfl,a,rfl⟩|⟨rfl,a,rfl⟩|⟨rfl,a,rfl⟩|⟨rfl,a,rfl⟩|⟨rfl,rfl,hn⟩|⟨rfl,a,hn⟩|⟨rfl,a,ki,rfl⟩;simp[dO];have:=m8 a;simp[dO];omega;simp[dO];omega;simp[dO];omega;simp[dO];omega;have h1:=aiB (n:=n) (by omega) hn.2;simp only[dO,Int.reduceEq,reduceIte,or_self];omega;have:=m8 a;simp[dO];omega;have:=m8 a;simp[dO];omega
theorem mq {r:Int×Int×Int} (h:eG r=true):lr r=(ax r:Int)/\1<=ax r/\ax r<=6:=by obtain⟨k,p,n⟩:=r;rcases sE h with⟨rfl,rfl,rfl⟩|⟨rfl,a,rfl⟩|⟨rfl,a,rfl⟩|⟨rfl,a,rfl⟩|⟨rfl,a,rfl⟩|⟨rfl,rfl,hn⟩|⟨rfl,a,hn⟩|⟨rfl,a,ki,rfl⟩;simp[ax,lr];simp[ax,lr];simp[ax,lr];simp[ax,lr];simp[ax,lr];simp[ax,lr];simp[ax,lr];omega;simp[ax,lr]
theorem apg (x:(Int×Int×Int)×U) (y:Bool) (h:GL x=some y):SI aN x=some y:=by obtain⟨⟨k,p,n⟩,l⟩:=x;simp only[GL] at h;split at h;rename_i d;obtain⟨hr,hl⟩:=d;rw[<-h];have b:=B4 hr;simp only[SI];rw[show GQ (k,p,n)=some (dO (k,p,n)) from aj hr,bm];generalize dO (k,p,n)=t at b⊢;rw[FM l (fun i=>(t,l,aD (ab l),(i:Int))) (sd t) (.inr false) (.inl ()) ?_ ?_ ?_ ?_ dE];cases l.all (sd t)<;>rfl;intro i a c b;rw[aX (ph c),cE,c,bm];simp only[sd,decide_eq_true_eq] at b;rw[aW (dQ b.1),aW (dQ b.2),tw c (by omega)];intro i a c b;rw[aX (ph c),cE,c,bm];simp only[sd,decide_eq_false_iff_not] at b;by_cases e:a<0;rw[aX (dg e)];rw[aW dQ,aX dg];rw[aW (iQ l)];rfl;cases h
theorem azC {w:Nat} {p:Int} (h:w=1):bB (cR w (0:Int)) 0 p=[p]:=by subst h;rfl
theorem mkW {r:Int×Int×Int} (hr:eG r=true):kB (lr r) (lr r) 8=some (ax r):=by have a:=mq hr;rw[a.1];exact qH (by simp only[eD];omega)
theorem ace (x:Int×Int×Int) (y:U) (h:Cd x=some y):SQ aN x=some y:=by obtain⟨k,p,n⟩:=x;simp only[Cd] at h;split at h;rename_i hr;rw[<-h];simp only[SQ,tM,bm];rw[mkW hr,bm,KY];by_cases a:k=4;subst a;rw[aj rfl];rfl;rw[ak a,uv,be,bm,io,iJ,bm];simp only[eX];rw[ak a];cases h
theorem ap6 (x:Int×Int×Int) (y:U) (h:Ev x=some y):aal aN x=some y:=ace x y h
theorem Gr (w:Nat) (f:Nat->Int):(gV w f).length=w:=by simp[gV]
theorem Kc {w j:Nat} (f:Nat->Int) (h:j<w):(gV w f)[j]? =some (f j):=by simp[gV,h]
theorem Aa {w:Nat} {f g:Nat->Int} (h:∀j,j<w->f j=g j):gV w f=gV w g:=zaX fun j a=>h j (zaM.1 a)
theorem alO {w:Nat} (f:Nat->Int) (j:Nat) (v:Int):(gV w f).set j v=gV w (fun i=>if i=j then v else f i):=by apply Pd;intro i;by_cases a:i<w;rw[Kc _ a];by_cases b:j=i;subst b;rw[zaI (by rw[Gr];exact a),aj rfl];rw[zbh b,Kc _ a,ak (fun e=>b e.symm)];rw[GB (by rw[List.length_set,Gr];omega),GB (by rw[Gr];omega)]
theorem UW {x:U} {j:Nat} (h:j<x.length):x[j]? =some (bR x j):=by rw[wt h];simp[bR,By,wt h]
theorem Lh {w j:Nat} (f:Nat->Int) (h:j<w):bR (gV w f) j=f j:=by simp[bR,By,Kc f h]
theorem NB {x:U} {w:Nat} (h:x.length=w):gV w (bR x)=x:=by subst h;apply Pd;intro i;by_cases a:i<x.length;rw[Kc _ a,UW a];rw[GB (by rw[Gr];omega),GB (by omega)]
theorem R3 (w:Nat) (c:Int):cR w c=gV w fun _=>c:=by apply Pd;intro i;by_cases a:i<w;rw[Kc _ a];simp[cR,a];rw[GB (by simp[cR];omega),GB (by rw[Gr];omega)]
theorem tt (w:Nat) (f:Nat->Int):ab (gV w f)=w:=Gr w f
theorem abf {w j:Nat} (f:Nat->Int) (h:j<w):cN (j:Int) (ab (gV w f))=some j:=by rw[tt];exact kI h
theorem Vl {w j:Nat} (f:Nat->Int) (h:j<w):bQ (gV w f) (av 0 j)=some (f j):=by rw[f9];exact Kc f h
theorem ak0 {w:Nat} (f:Nat->Int) (j:Nat) (v:Int):bB (gV w f) (av 0 j) v=gV w (fun i=>if i=j then v else f i):=by rw[f9];exact alO f j v
theorem EY {x:U} {j:Nat} (h:j<x.length:=by omega):bF x (j:Int)=some (bR x j):=by rw[cE];exact UW h
def tK (f g:Nat->Int) (i:Nat):Nat->Int:=fun j=>if j<i then f j else g j
theorem al6 (w:Nat) (f g:Nat->Int):gV w (tK f g 0)=gV w g:=Aa fun j _=>ak (by omega)
theorem al7 (w:Nat) (f g:Nat->Int):gV w (tK f g w)=gV w f:=Aa fun j h=>aj h
theorem al8 (w:Nat) (f g:Nat->Int) (i:Nat):bB (gV w (tK f g i)) (av 0 i) (f i)=gV w (tK f g (i+1)):=by rw[ak0];refine Aa fun j _=>?_;simp only[tK];by_cases h:j=i;subst h;rw[aj rfl,aj (by omega)];rw[ak h];by_cases a:j<i;rw[aj a,aj (by omega)];rw[ak a,ak (by omega)]
theorem aBb (f g:Nat->Int) (i:Nat):tK f g i i=g i:=ak (by omega)
theorem jv {r:Int×Int×Int} {x:U} (h:eV r x=true):x.length=ax r:=by simp only[eV,AT,decide_eq_true_eq] at h;exact h.1
theorem rO {r:Int×Int×Int} {x:U} (h:eV r x=true) {j:Nat} (a:j<ax r):0<=bR x j/\bR x j<=dO r:=by simp only[eV,AT,decide_eq_true_eq] at h;have:=zaf.1 h.2 (bR x j) (BY (UW (by rw[h.1];exact a)));simpa[sd] using this
theorem UC {r:Int×Int×Int} {f:Nat->Int} (h:∀j,j<ax r->0<=f j/\f j<=dO r):eV r (gV (ax r) f)=true:=by simp only[eV,AT,decide_eq_true_eq,Gr,true_and,zaf];intro v a;obtain⟨j,b,rfl⟩:=List.mem_map.1 a;simpa[sd] using h j (zaM.1 b)
theorem AJ {r:Int×Int×Int} {x:U} (h:eV r x=true) (b:ax r=1):x=[bR x 0]/\0<=bR x 0/\bR x 0<=dO r:=by
 have hl:=jv h;rw[b] at hl;match x,hl with
 |[a],_=>exact⟨rfl,rO h (j:=0) (by omega)⟩
theorem qM {a p:Int} (b:0<=a:=by omega) (hp:0<p:=by omega):hZ a p=some (a%p):=by obtain⟨m,rfl⟩:=pW (z:=p) (by omega);exact M3 b (by omega)
theorem avD {a b:Int} (ha:0<=a/\a<=1) (hb:0<=b/\b<=1):wF a b=((a.toNat|||b.toNat:Nat):Int):=by
 have d:a=0\/a=1:=by omega
 have c:b=0\/b=1:=by omega
 rcases d with rfl|rfl<;>rcases c with rfl|rfl<;>rfl
theorem avF {a b:Int} (ha:0<=a/\a<=1) (hb:0<=b/\b<=1):iM a b=((a.toNat&&&b.toNat:Nat):Int):=by
 have d:a=0\/a=1:=by omega
 have c:b=0\/b=1:=by omega
 rcases d with rfl|rfl<;>rcases c with rfl|rfl<;>rfl
theorem X7 {a b:Int} (d:0<=a/\a<=1048576:=by omega) (c:0<=b/\b<=1048576:=by omega):DQ .i64 a b=((a.toNat|||b.toNat:Nat):Int):=by obtain⟨m,rfl⟩:=pW d.1;obtain⟨n,rfl⟩:=pW c.1;exact axN (by omega) (by omega)
theorem TT {a b:Int} (d:0<=a/\a<=1048576:=by omega) (c:0<=b/\b<=1048576:=by omega):yM .i64 a b=((a.toNat&&&b.toNat:Nat):Int):=by obtain⟨m,rfl⟩:=pW d.1;obtain⟨n,rfl⟩:=pW c.1;exact amK (by omega) (by omega)
theorem KF {r:Int×Int×Int} {a b:Int} (c:ax r=1):fV r [a] [b]=[j3 r a b]:=by simp only[fV,c];rfl
theorem ap0 (x:(Int×Int×Int)×U×U) (z:U) (h:Cl x=some z):Tk aN x=some z:=by obtain⟨⟨k,p,n⟩,x,y⟩:=x;simp only[Cl] at h;split at h;rename_i m;obtain⟨hr,hx,hy⟩:=m;rw[<-h];have hT:=B4 hr;have hw:=mq hr;have e:=jv hx;have Fh:=jv hy;simp only[Tk,ah];rw[qH (n:=ab x) (by unfold ab;rw[e];simp only[eD];omega),bm,uv,be,bm];rw[show ab x=ax (k,p,n) from e];rw[eR (fun i=>((x,y,aD (ax (k,p,n)),(i:Int)),(k,p,n),gV (ax (k,p,n)) (tK (fun j=>j3 (k,p,n) (bR x j) (bR y j)) (fun _=>0) i))) (r:=co (fV (k,p,n) x y)) (ax (k,p,n)) ?a1 ?a2 ?a3 dE];rw[io,iJ,bm];(case a3=>rw[al6,R3];rfl);(case a2=>simp only;rw[aW (dQ (show aD (ax (k,p,n))<=((ax (k,p,n):Nat):Int) from zaz _)),al7,be,bm,bm];rfl);(case a1=>intro i d;have b1:=rO hx d;have b2:=rO hy d;have ie:∀v,v=j3 (k,p,n) (bR x i) (bR y i)->(some (co ((x,y,aD (ax (k,p,n)),bo .i64 (i:Int) 1),(k,p,n),bB (gV (ax (k,p,n)) (tK (fun j=>j3 (k,p,n) (bR x j) (bR y j)) (fun _=>0) i)) (av 0 i) v)): Option (((U×U×Int×Int)×(Int×Int×Int)×U)⊕(U⊕U)))=some (co ((x,y,aD (ax (k,p,n)),((i+1:Nat):Int)),(k,p,n),gV (ax (k,p,n)) (tK (fun j=>j3 (k,p,n) (bR x j) (bR y j)) (fun _=>0) (i+1)))):=(by rintro v rfl;rw[al8 (f:=fun j=>j3 (k,p,n) (bR x j) (bR y j)),d6];rfl);have l:bF x (i:Int)=some (bR x i):=EY;have o:bF y (i:Int)=some (bR y i):=EY;generalize hf:tK (fun j=>j3 (k,p,n) (bR x j) (bR y j)) (fun _=>0) i=f at ie;have b:cN (i:Int) (ab (gV (ax (k,p,n)) f))=some i:=abf _ d;have c:bQ (gV (ax (k,p,n)) f) (av 0 i)=some (f i):=Vl _ d;simp only[hf];rw[aX (dg (show(i:Int)<aD (ax (k,p,n)) by simp only[aD];omega))];rcases sE hr with⟨rfl,rfl,rfl⟩|⟨rfl,a,rfl⟩|⟨rfl,a,rfl⟩|⟨rfl,a,rfl⟩|⟨rfl,a,rfl⟩|⟨rfl,rfl,hn⟩|⟨rfl,a,hn⟩|⟨rfl,a,ki,rfl⟩<;> simp only[K9,Int.reduceEq,decide_true,decide_false,KZ,HI,be,bm,io,l,o,b,c,BK];exact ie _ (by rw[X7];rfl);have:=m8 a;have g:dO (2,p,0)=p - 1:=rfl;rw[d6,qM];simp only[bm,b,c,BK,be];exact ie _ rfl;exact ie _ (by rw[d6,wH];rfl);exact ie _ (by rw[wH];rfl);exact ie _ (by rw[aga];rfl);exact ie _ (by rw[X7];rfl);have:=m8 a;have g:dO (7,p,n)=p - 1:=rfl;rw[d6,qM];simp only[bm,b,c,BK,be];exact ie _ rfl;have:=m8 a;have g:dO (8,p,0)=p - 1:=rfl;rw[d6,qM];simp only[bm,b,c,BK,be];exact ie _ rfl);cases h
theorem JS {f g:Nat->Int}:∀{n:Nat},(∀i,i<n->f i=g i)->sm n f=sm n g
 |0,_=>rfl
 |n+1,h=>by simp only[sm];rw[JS (n:=n) (fun i hi=>h i (by omega)),h n (by omega)]
def kD (om:Bool) (w:Nat) (x y:Nat->Int) (i j t:Nat):Int:=sm i (fun a=>sm w (fun b=>kW om x y t a b))+sm j (fun b=>kW om x y t i b)
def iW (p:Int) (om:Bool) (w:Nat) (x y:Nat->Int) (i j:Nat):U:=gV w fun t=>kD om w x y i j t%p
theorem abw (p:Int) (om:Bool) (w:Nat) (x y:Nat->Int) (i:Nat):iW p om w x y i w=iW p om w x y (i+1) 0:=by unfold iW;refine Aa fun t _=>?_;simp only[kD,sm,zbX]
theorem abu (p:Int) (om:Bool) (w:Nat) (x y:Nat->Int):iW p om w x y 0 0=cR w 0:=by rw[R3];unfold iW;exact Aa fun t _=>by simp[kD,sm]
theorem abv (p:Int) (om:Bool) (w:Nat) (x y:Nat->Int):iW p om w x y w 0=uT p om w x y:=by unfold iW uT;refine Aa fun t _=>?_;simp only[kD,sm,zbX]
theorem abM (a b p:Int):(a%p+b)%p=(a+b)%p:=by rw[Int.emod_add_emod]
theorem aby {p:Int} {om:Bool} {w:Nat} {x y:Nat->Int} {i j a:Nat} (v:Int) (hp:0<p) (k:i+j=a\/om=true/\i+j=a+4) (b:om=true->w=4) (hi:i<w) (hj:j<w) (h0:a<w) (f:v=(kD om w x y i j a+kW om x y a i j)%p): bB (iW p om w x y i j) (av 0 a) v=iW p om w x y i (j+1):=by unfold iW;rw[ak0];refine Aa fun t cF=>?_;by_cases e:t=a;rw[aj e,f,e];congr 1;simp only[kD,sm];omega;rw[ak e];have g:kW om x y t i j=0:=(by unfold kW;have l:i+j≠t:=(by rcases k with h|⟨c,h⟩;omega;have:=b c;omega);rw[ak l,ak (fun d=>by have:=b d.1;omega)]);have m:kD om w x y i (j+1) t=kD om w x y i j t:=(by simp only[kD,sm,g];omega);rw[m]
theorem abx {p:Int} {om:Bool} {w:Nat} {x y:Nat->Int} {i j:Nat} (h1:w<=i+j) (a:om=false):iW p om w x y i j=iW p om w x y i (j+1):=by unfold iW;refine Aa fun t cF=>?_;have c:kW om x y t i j=0:=(by unfold kW;rw[ak (by omega),ak (by simp[a])]);have b:kD om w x y i (j+1) t=kD om w x y i j t:=(by simp only[kD,sm,c];omega);rw[b]
theorem DE {a b:Int} (d:0<=a/\a<=1048576) (c:0<=b/\b<=1048576):f6 .i64 a b=a*b/\0<=a*b/\a*b<=1099511627776:=by have e:0<=a*b:=za5 d.1 c.1;have h1:a*b<=1048576*1048576:=zav d.2 c.2 c.1 (by decide);exact⟨rE,e,by omega⟩
theorem OE {p:Int} {om:Bool} {w:Nat} {x y:Nat->Int} {i j t:Nat} (h:t<w):cN (t:Int) (ab (iW p om w x y i j))=some t/\bQ (iW p om w x y i j) (av 0 t)=some (kD om w x y i j t%p):=⟨abf _ h,Vl _ h⟩
structure NK (k p:Int) (w:Nat):Prop where
 ck:k=7\/k=8
 cp:2<=p/\p<=1000003
 cw:1<=w/\w<=6
 w8:k=8->w=4
theorem KQ {k p n:Int} (h:eG (k,p,n)=true) (c:k=7\/k=8):NK k p (ax (k,p,n)):=by have b:=mq h;refine⟨c,?_,b.2,fun e=>by subst e;rfl⟩;rcases sE h with⟨rfl,rfl,rfl⟩|⟨rfl,a,rfl⟩|⟨rfl,a,rfl⟩|⟨rfl,a,rfl⟩|⟨rfl,a,rfl⟩|⟨rfl,rfl,hn⟩|⟨rfl,a,hn⟩|⟨rfl,a,ki,rfl⟩;all_goals first|exact m8 a|(exfalso;omega)
theorem abA {k p a b:Int} {w i j:Nat} {x y:Nat->Int} (c:NK k p w) (ha:0<=a/\a<=p) (hb:0<=b/\b<=p) (f:x i=a) (g:y j=b) (n:i<w) (h:j<w) (l:i+j<w): ∃v,hZ (bo .i64 (kD (decide (k=8)) w x y i j (i+j)%p) (f6 .i64 a b)) p=some v/\(∀q,hZ (f6 .i64 a b) p=some q->hZ (bo .i64 (kD (decide (k=8)) w x y i j (i+j)%p) q) p=some v)/\ bB (iW p (decide (k=8)) w x y i j) (av 0 (i+j)) v=iW p (decide (k=8)) w x y i (j+1):=by obtain⟨Bg,mM⟩:=c.cp;obtain⟨m1,m2,m3⟩:=DE (a:=a) (b:=b) (by omega) (by omega);have s0:=zai (kD (decide (k=8)) w x y i j (i+j)) (b:=p) (by omega);have s1:=zaa (kD (decide (k=8)) w x y i j (i+j)) (b:=p) (by omega);have m:kW (decide (k=8)) x y (i+j) i j=a*b:=(by unfold kW;rw[aj rfl,f,g]);refine⟨(kD (decide (k=8)) w x y i j (i+j)%p+a*b)%p,?_,fun q d=>?_,aby _ (by omega) (.inl rfl) (fun e=>c.w8 (of_decide_eq_true e)) n h l (by rw[m,abM])⟩;rw[m1,d6,qM];rw[m1,qM] at d;injection d with d;have q0:=zai (a*b) (b:=p) (by omega);have q1:=zaa (a*b) (b:=p) (by omega);rw[<-d,d6,qM,Int.add_emod_emod]
theorem abz {p a b:Int} {i j:Nat} {x y:Nat->Int} (l:2<=p/\p<=1000003) (ha:0<=a/\a<=p) (hb:0<=b/\b<=p) (g:x i=a) (h:y j=b) (n:i<4) (k:j<4) (cF:4<=i+j): ∃v,hZ (bo .i64 (kD true 4 x y i j (i+j - 4)%p) (f6 .i64 (iw .i64 p a) b)) p=some v/\(∀q,hZ (f6 .i64 a b) p=some q->hZ (iw .i64 (bo .i64 (kD true 4 x y i j (i+j - 4)%p) p) q) p=some v)/\ bB (iW p true 4 x y i j) (av 0 (i+j - 4)) v=iW p true 4 x y i (j+1):=by obtain⟨Bg,mM⟩:=l;have e:iw .i64 p a=p - a:=mT;obtain⟨m1,m2,m3⟩:=DE (a:=a) (b:=b) (by omega) (by omega);obtain⟨f,n2,n3⟩:=DE (a:=p - a) (b:=b) (by omega) (by omega);have s0:=zai (kD true 4 x y i j (i+j - 4)) (b:=p) (by omega);have s1:=zaa (kD true 4 x y i j (i+j - 4)) (b:=p) (by omega);have m:kW true x y (i+j - 4) i j= -(a*b):=(by unfold kW;rw[ak (by omega),aj ⟨rfl,by omega⟩,g,h]);have d:(kD true 4 x y i j (i+j - 4)%p+(p - a)*b)%p=(kD true 4 x y i j (i+j - 4)+ -(a*b))%p:=(by rw[abM];rw[show kD true 4 x y i j (i+j - 4)+(p - a)*b=kD true 4 x y i j (i+j - 4)+ -(a*b)+p*b by rw[Int.sub_mul];omega,Int.add_mul_emod_self_left]);refine⟨(kD true 4 x y i j (i+j - 4)%p+(p - a)*b)%p,?_,fun q c=>?_,aby _ (by omega) (.inr ⟨rfl,by omega⟩) (fun _=>rfl) n k (by omega) (by rw[m,d])⟩;rw[e,f,d6,qM];rw[m1,qM] at c;injection c with c;have q0:=zai (a*b) (b:=p) (by omega);have q1:=zaa (a*b) (b:=p) (by omega);rw[<-c,d6,mT,qM,d];congr 1;rw[show kD true 4 x y i j (i+j - 4)%p+p - a*b%p=kD true 4 x y i j (i+j - 4)%p - a*b%p+p by omega,Int.add_emod_right,<-Int.sub_eq_add_neg,Int.sub_emod_emod,Int.emod_sub_emod]
theorem apl (x:(Int×Int×Int)×U×U×U) (z:U) (h:Es x=some z):SJ aN x=some z:=by obtain⟨⟨k,p,n⟩,l,x,y⟩:=x;simp only[Es] at h;split at h;rename_i H;obtain⟨⟨hr,F⟩,hl,hx,hy⟩:=H;rw[<-h];have c:=KQ hr F;have A:=jv hx;have G:=jv hy;have K:dO (k,p,n)=p - 1:=(by simp only[dO];rw[ak (by omega),ak (by omega),ak (by omega)]);have C:=fun j (d:j<ax (k,p,n))=>rO hx d;have by_:=fun j (d:j<ax (k,p,n))=>rO hy d;rw[K] at C by_;obtain⟨L,N⟩:=c.cp;obtain⟨hw0,hw1⟩:=c.cw;have M:mR (k,p,n) x y=uT p (decide (k=8)) (ax (k,p,n)) (bR x) (bR y):=(by simp only[mR];rw[aj F]);rw[M];simp only[SJ,ah];have I:HP l 0 (ab l) (cR (ab l) (0:Int))=some (cR (ax (k,p,n)) 0):=(by unfold HP;rw[aj (by simp[ab])];simp[cR,ab,hl]);rw[I,bm,show ab l=ax (k,p,n) from hl,uv,be,bm];generalize ax (k,p,n)=w at*;rw[eR (fun i=>((x,y,aD (ab x),(i:Int)),iW p (decide (k=8)) w (bR x) (bR y) i 0,k,p,n)) w ?a1 ?a2 ?a3 dE];(case a3=>rw[abu];rfl);(case a2=>simp only;rw[aW (dQ (by rw[nl,A];omega)),abv,rJ (by unfold uT;rw[tt]),bm,bm]);(case a1=>intro i o;simp only;rw[aX (dg (by rw[nl,A];omega)),be,bm];rw[eR (fun j=>((x,y,(i:Int),aD (ab x),(i:Int),aD (ab y),(j:Int)),iW p (decide (k=8)) w (bR x) (bR y) i j,k,p,n)) (r:=co (((i:Int),x,y,aD (ab x)),iW p (decide (k=8)) w (bR x) (bR y) i w,k,p,n)) w ?E ?B ?b3 dE];rw[io];simp only;rw[be,bm,abw,d6];rfl;(case b3=>rfl);(case B=>simp only;rw[aW (dQ (by rw[nl,G];omega)),be,bm,bm]);case E=>intro j d;have E:=C i o;have B:=by_ j d;simp only;rw[aX (dg (by rw[nl,G];omega)),EY,bm,EY,bm];obtain⟨m1,m2,m3⟩:=DE (a:=bR x i) (b:=bR y j) (by omega) (by omega);obtain⟨q,s⟩:∃q,hZ (f6 .i64 (bR x i) (bR y j)) p=some q:=⟨_,by rw[m1,qM]⟩;rw[s,bm,d6 (a:=(i:Int)) (by omega) (by omega),d6 (a:=(j:Int)) (by omega) (by omega)];rw[show(i:Int)+(j:Int)=((i+j:Nat):Int) by omega,show(j:Int)+1=((j+1:Nat):Int) by omega];rw[show ab (iW p (decide (k=8)) w (bR x) (bR y) i j)=w from tt _ _];by_cases D:i+j<w;obtain⟨v,J,u,m⟩:=abA c (a:=bR x i) (b:=bR y j) (by omega) (by omega) rfl rfl o d D;obtain⟨e,f⟩:=OE (p:=p) (om:=decide (k=8)) (x:=bR x) (y:=bR y) (i:=i) (j:=j) D;rw[show ab (iW p (decide (k=8)) w (bR x) (bR y) i j)=w from tt _ _] at e;rw[aX (dg (by simp only[aD];omega)),e,bm,f,bm,u q s,bm,bm,f,bm,m,show ab (iW p (decide (k=8)) w (bR x) (bR y) i (j+1))=w from tt _ _,be,bm];rw[aW (dQ (by simp only[aD];omega)),KY];by_cases g:k=8;obtain rfl:=c.w8 g;subst g;obtain⟨v,J,u,m⟩:=abz (p:=p) (a:=bR x i) (b:=bR y j) ⟨L,N⟩ (by omega) (by omega) rfl rfl o d (by omega);obtain⟨e,f⟩:=OE (p:=p) (om:=true) (w:=4) (x:=bR x) (y:=bR y) (i:=i) (j:=j) (t:=i+j - 4) (by omega);rw[show ab (iW p true 4 (bR x) (bR y) i j)=4 from tt _ _] at e;rw[aj rfl,mT (a:=((i+j:Nat):Int)) (by omega) (by omega),show((i+j:Nat):Int) - 4=((i+j - 4:Nat):Int) by omega];simp only[decide_true];rw[e,bm,f,bm,u q s,bm,bm,f,bm,m,show ab (iW p true 4 (bR x) (bR y) i (j+1))=4 from tt _ _,be,bm];rw[ak g,be,bm,abx (by omega) (decide_eq_false g)]);cases h
theorem pj {r:Int×Int×Int} {a b:Int} (h:¬(r.1=7\/r.1=8)):mR r [a] [b]=[nU r a b]:=by simp only[mR];rw[ak h];rfl
theorem Je {l:U} (h:l.length=1):∃t,l=[t]:=by
 match l,h with
 |[t],_=>exact⟨t,rfl⟩
theorem sU {r:Int×Int×Int} {x y:U} (hx:eV r x=true) (hy:eV r y=true) (c:ax r=1):∃a b,x=[a]/\y=[b]/\(0<=a/\a<=dO r)/\0<=b/\b<=dO r:= ⟨_,_,(AJ hx c).1,(AJ hy c).1,(AJ hx c).2,(AJ hy c).2⟩
theorem apm (x:(Int×Int×Int)×U×U×U) (z:U) (h:GO x=some z):NU aN x=some z:=by obtain⟨⟨k,p,n⟩,l,x,y⟩:=x;simp only[GO] at h;split at h;rename_i f;obtain⟨hr,hl,hx,hy⟩:=f;rw[<-h];have hT:=B4 hr;rcases sE hr with⟨rfl,rfl,rfl⟩|⟨rfl,d,rfl⟩|⟨rfl,d,rfl⟩|⟨rfl,d,rfl⟩|⟨rfl,d,rfl⟩|⟨rfl,rfl,hn⟩|⟨rfl,d,hn⟩|⟨rfl,d,ki,rfl⟩;obtain⟨a,b,rfl,rfl,e,c⟩:=sU hx hy rfl;obtain⟨t,rfl⟩:=Je (l:=l) hl;rw[pj (by simp)];show some [iM a b]=some [_];rw[avF e c];rfl;obtain⟨a,b,rfl,rfl,e,c⟩:=sU hx hy rfl;obtain⟨t,rfl⟩:=Je (l:=l) hl;rw[pj (by simp)];have:=m8 d;have ht:dO (2,p,0)=p - 1:=rfl;obtain⟨m1,m2,g⟩:=DE (a:=a) (b:=b) (by omega) (by omega);show(hZ (f6 .i64 a b) p).ae (fun q=>some [q])=some [_];rw[m1,qM];rfl;obtain⟨a,b,rfl,rfl,e,c⟩:=sU hx hy rfl;obtain⟨t,rfl⟩:=Je (l:=l) hl;rw[pj (by simp)];obtain⟨m1,m2,g⟩:=DE (a:=a) (b:=b) (by omega) (by omega);show some [iM (f6 .i64 a b) p]=some [_];rw[m1,wH];rfl;obtain⟨a,b,rfl,rfl,e,c⟩:=sU hx hy rfl;obtain⟨t,rfl⟩:=Je (l:=l) hl;rw[pj (by simp)];show some [iM (bo .i64 a b) p]=some [_];rw[d6,wH];rfl;obtain⟨a,b,rfl,rfl,e,c⟩:=sU hx hy rfl;obtain⟨t,rfl⟩:=Je (l:=l) hl;rw[pj (by simp)];show some [iM a b]=some [_];rw[wH];rfl;obtain⟨a,b,rfl,rfl,e,c⟩:=sU hx hy rfl;obtain⟨t,rfl⟩:=Je (l:=l) hl;rw[pj (by simp)];show some [yM .i64 a b]=some [_];rw[TT];rfl;simp only[NU,K9,Int.reduceEq,decide_true,decide_false,KZ,HI,be,bm,io,ah];rw[show Es ((7,p,n),l,x,y)=some (mR (7,p,n) x y) from aj ⟨⟨hr,.inl rfl⟩,hl,hx,hy⟩,bm,rJ (by rw[show ab l=_ from hl];exact tt _ _),bm];simp only[NU,K9,Int.reduceEq,decide_true,decide_false,KZ,HI,be,bm,io,ah];rw[show Es ((8,p,0),l,x,y)=some (mR (8,p,0) x y) from aj ⟨⟨hr,.inr rfl⟩,hl,hx,hy⟩,bm,rJ (by rw[show ab l=_ from hl];exact tt _ _),bm];cases h
theorem anp {k p n:Int} (h:eG (k,p,n)=true) (hk:k=7\/k=8) (om:Bool) (he:om=decide (k=8)):cu k 1=false/\cu k 6=false/\cu k 2=false/\cu k 3=false/\cu k 4=false/\cu k 5=false:= ⟨nw,nw,nw,nw,nw,nw⟩
theorem ap3 (x:(Int×Int×Int)×U×U) (z:U) (h:GZ x=some z):Tl aN x=some z:=by obtain⟨⟨k,p,n⟩,x,y⟩:=x;simp only[GZ] at h;split at h;rename_i hc;obtain⟨hr,hx,hy⟩:=hc;rw[<-h];have hT:=B4 hr;by_cases hk:k=7\/k=8;have c:=KQ hr hk;have xN:=jv hx;have Fh:=jv hy;have r7:dO (k,p,n)=p - 1:=(by simp only[dO];rw[ak (by omega),ak (by omega),ak (by omega)]);have bx:=fun j (hj:j<ax (k,p,n))=>rO hx hj;have by_:=fun j (hj:j<ax (k,p,n))=>rO hy hj;rw[r7] at bx by_;obtain⟨Bg,mM⟩:=c.cp;obtain⟨hw0,hw1⟩:=c.cw;have zh:mR (k,p,n) x y=uT p (decide (k=8)) (ax (k,p,n)) (bR x) (bR y):=(by simp only[mR];rw[aj hk]);rw[zh];obtain⟨k1,k6,k2,k3,k4,k5⟩:=anp hr hk _ rfl;simp only[Tl,ah];rw[qH (n:=ab x) (by unfold ab;rw[xN];simp only[eD];omega),bm,uv,be,bm,bm,k1,aW rfl,io];simp only;rw[k6,aW rfl,k2,aW rfl,k3,aW rfl,k4,aW rfl,k5,aW rfl,uv,be,bm,show ab x=ax (k,p,n) from xN];generalize ax (k,p,n)=w at*;rw[eR (fun i=>((y,x,aD w,(i:Int)),(k,p,n),iW p (decide (k=8)) w (bR x) (bR y) i 0)) (r:=co (uT p (decide (k=8)) w (bR x) (bR y))) w ?a1 ?a2 ?a3 dE];rw[io,iJ,bm];(case a3=>rw[abu];rfl);(case a2=>simp only;rw[aW (dQ (show aD w<=((w:Nat):Int) from zaz _)),abv,be,bm,bm]);(case a1=>intro i hi;simp only;rw[aX (dg (show(i:Int)<aD w by simp only[aD];omega)),EY,bm,be,bm];rw[eR (fun j=>((y,(i:Int),bR x i,x,aD w,(i:Int),y,aD (ab y),(j:Int)),(k,p,n),iW p (decide (k=8)) w (bR x) (bR y) i j)) (r:=co (((i:Int),y,x,aD w),(k,p,n),iW p (decide (k=8)) w (bR x) (bR y) i w)) w ?b1 ?b2 ?b3 dE];rw[io];simp only;rw[be,bm,abw,d6];rfl;(case b3=>rfl);(case b2=>simp only;rw[aW (dQ (by rw[nl,Fh];omega)),be,bm,bm]);case b1=>intro j hj;have b1:=bx i hi;have b2:=by_ j hj;simp only;rw[aX (dg (by rw[nl,Fh];omega)),EY,bm];rw[d6 (a:=(i:Int)) (by omega) (by omega),d6 (a:=(j:Int)) (by omega) (by omega)];rw[show(i:Int)+(j:Int)=((i+j:Nat):Int) by omega,show(j:Int)+1=((j+1:Nat):Int) by omega];rw[show ab (iW p (decide (k=8)) w (bR x) (bR y) i j)=w from tt _ _];by_cases cF:i+j<w;obtain⟨v,v1,v2,v3⟩:=abA c (a:=bR x i) (b:=bR y j) (by omega) (by omega) rfl rfl hi hj cF;obtain⟨g1,g2⟩:=OE (p:=p) (om:=decide (k=8)) (x:=bR x) (y:=bR y) (i:=i) (j:=j) cF;rw[show ab (iW p (decide (k=8)) w (bR x) (bR y) i j)=w from tt _ _] at g1;rw[aX (dg (by simp only[aD];omega)),g1,bm,g2,bm,v1,bm,bm,g2,bm,v3,show ab (iW p (decide (k=8)) w (bR x) (bR y) i (j+1))=w from tt _ _,be,bm];rw[aW (dQ (by simp only[aD];omega)),KY];by_cases h8:k=8;obtain rfl:=c.w8 h8;subst h8;obtain⟨v,v1,v2,v3⟩:=abz (p:=p) (a:=bR x i) (b:=bR y j) ⟨Bg,mM⟩ (by omega) (by omega) rfl rfl hi hj (by omega);obtain⟨g1,g2⟩:=OE (p:=p) (om:=true) (w:=4) (x:=bR x) (y:=bR y) (i:=i) (j:=j) (t:=i+j - 4) (by omega);rw[show ab (iW p true 4 (bR x) (bR y) i j)=4 from tt _ _] at g1;rw[aj rfl,mT (a:=((i+j:Nat):Int)) (by omega) (by omega),show((i+j:Nat):Int) - 4=((i+j - 4:Nat):Int) by omega];simp only[decide_true];rw[g1,bm,g2,bm,v1,bm,bm,g2,bm,v3,show ab (iW p true 4 (bR x) (bR y) i (j+1))=4 from tt _ _,be,bm];rw[ak h8,be,bm,abx (by omega) (decide_eq_false h8)]);rcases sE hr with⟨rfl,rfl,rfl⟩|⟨rfl,hp,rfl⟩|⟨rfl,hp,rfl⟩|⟨rfl,hp,rfl⟩|⟨rfl,hp,rfl⟩|⟨rfl,rfl,hn⟩|⟨rfl,hp,hn⟩|⟨rfl,hp,ki,rfl⟩;obtain⟨a,b,rfl,rfl,b1,b2⟩:=sU hx hy rfl;rw[pj (by simp)];show some [yM .i64 a b]=some [_];rw[TT];rfl;obtain⟨a,b,rfl,rfl,b1,b2⟩:=sU hx hy rfl;rw[pj (by simp)];have:=m8 hp;have ht:dO (2,p,0)=p - 1:=rfl;obtain⟨m1,m2,m3⟩:=DE (a:=a) (b:=b) (by omega) (by omega);have e:hZ (f6 .i64 a b) p=some (a*b%p):=(by rw[m1,qM]);show bK ((hZ (f6 .i64 a b) p).ae fun q=>some (co [q])) _=some [_];rw[e];rfl;obtain⟨a,b,rfl,rfl,b1,b2⟩:=sU hx hy rfl;rw[pj (by simp)];obtain⟨m1,m2,m3⟩:=DE (a:=a) (b:=b) (by omega) (by omega);show some [iM (f6 .i64 a b) p]=some [_];rw[m1,wH];rfl;obtain⟨a,b,rfl,rfl,b1,b2⟩:=sU hx hy rfl;rw[pj (by simp)];show some [iM (bo .i64 a b) p]=some [_];rw[d6,wH];rfl;obtain⟨a,b,rfl,rfl,b1,b2⟩:=sU hx hy rfl;rw[pj (by simp)];show some [iM a b]=some [_];rw[wH];rfl;obtain⟨a,b,rfl,rfl,b1,b2⟩:=sU hx hy rfl;rw[pj (by simp)];show some [yM .i64 a b]=some [_];rw[TT];rfl;omega;omega;cases h
theorem ET {r:Int×Int×Int} (hr:eG r=true):eV r (eX r)=true:=by have a:=B4 hr;obtain⟨k,p,n⟩:=r;simp only[eX];split;rename_i b;subst b;simp[eV,ax,lr,dO,sd];simp[dO] at a;omega;rw[R3];exact UC fun j _=>⟨zaz _,a.1⟩
theorem axF (k p n:Int):Jl (k,p,n)=gV (ax (k,p,n)) fun j=>if j=0 then(if k=4 then 0 else if k=5\/k=6 then dO (k,p,n) else 1) else 0:=by simp only[Jl];rw[R3];exact alO _ 0 _
theorem axI {r:Int×Int×Int} (hr:eG r=true) {a b:Int} (i:0<=a/\a<=dO r) (j:0<=b/\b<=dO r):0<=j3 r a b/\j3 r a b<=dO r:=by have hT:=B4 hr;obtain⟨k,p,n⟩:=r;have f:∀c:Int,2<=p->0<=c%p/\c%p<=p - 1:=fun c h=>(by have q0:=zai c (b:=p) (by omega);have q1:=zaa c (b:=p) (by omega);omega);rcases sE hr with⟨rfl,rfl,rfl⟩|⟨rfl,d,rfl⟩|⟨rfl,d,rfl⟩|⟨rfl,d,rfl⟩|⟨rfl,d,rfl⟩|⟨rfl,rfl,hn⟩|⟨rfl,d,hn⟩|⟨rfl,d,ki,rfl⟩;have e:dO (1,0,0)=1:=rfl;rw[e] at i j⊢;have g:a=0\/a=1:=(by omega);have l:b=0\/b=1:=(by omega);rcases g with rfl|rfl<;>rcases l with rfl|rfl<;>decide;exact f _ (m8 d).1;have e:dO (3,p,0)=p:=rfl;have o:j3 (3,p,0) a b=min (a+b) p:=rfl;omega;have o:j3 (4,p,0) a b=min a b:=rfl;omega;have o:j3 (5,p,0) a b=max a b:=rfl;omega;have e:dO (6,0,n)=2^n.toNat - 1:=rfl;have o:j3 (6,0,n) a b=((a.toNat|||b.toNat:Nat):Int):=rfl;have e2:(((2:Nat)^n.toNat:Nat):Int)=(2:Int)^n.toNat:=(by push_cast;rfl);have:=Nat.or_lt_two_pow (n:=n.toNat) (x:=a.toNat) (y:=b.toNat) (by omega) (by omega);omega;exact f _ (m8 d).1;exact f _ (m8 d).1
theorem K8 {r:Int×Int×Int} {x y:U} (hr:eG r=true) (hx:eV r x=true) (hy:eV r y=true):eV r (fV r x y)=true:= UC fun _ a=>axI hr (rO hx a) (rO hy a)
theorem axL {r:Int×Int×Int} (hr:eG r=true) (h:¬(r.1=7\/r.1=8)) {a b:Int} (d:0<=a/\a<=dO r) (f:0<=b/\b<=dO r):0<=nU r a b/\nU r a b<=dO r:=by have hT:=B4 hr;obtain⟨k,p,n⟩:=r;simp only at h;rcases sE hr with⟨rfl,rfl,rfl⟩|⟨rfl,c,rfl⟩|⟨rfl,c,rfl⟩|⟨rfl,c,rfl⟩|⟨rfl,c,rfl⟩|⟨rfl,rfl,hn⟩|⟨rfl,c,hn⟩|⟨rfl,c,ki,rfl⟩;have e:dO (1,0,0)=1:=rfl;rw[e] at d f⊢;have g:a=0\/a=1:=(by omega);have i:b=0\/b=1:=(by omega);rcases g with rfl|rfl<;>rcases i with rfl|rfl<;>decide;have:=m8 c;have o:nU (2,p,0) a b=a*b%p:=rfl;have e:dO (2,p,0)=p - 1:=rfl;have q0:=zai (a*b) (b:=p) (by omega);have q1:=zaa (a*b) (b:=p) (by omega);omega;have e:dO (3,p,0)=p:=rfl;have o:nU (3,p,0) a b=min (a*b) p:=rfl;have:=za5 d.1 f.1;omega;have o:nU (4,p,0) a b=min (a+b) p:=rfl;have e:dO (4,p,0)=p:=rfl;omega;have o:nU (5,p,0) a b=min a b:=rfl;omega;have o:nU (6,0,n) a b=((a.toNat&&&b.toNat:Nat):Int):=rfl;have:=Nat.and_le_left (n:=a.toNat) (m:=b.toNat);omega;omega;omega
theorem aob {r:Int×Int×Int} {x y:U} (hr:eG r=true) (hx:eV r x=true) (hy:eV r y=true):eV r (mR r x y)=true:=by by_cases d:r.1=7\/r.1=8;simp only[mR];rw[aj d];obtain⟨k,p,n⟩:=r;have c:=KQ hr d;have m:dO (k,p,n)=p - 1:=(by simp only at d;simp only[dO];rw[ak (by omega),ak (by omega),ak (by omega)]);refine UC fun j _=>?_;rw[m];have:=c.cp;have l:=zai (sm (ax (k,p,n)) fun i=>sm (ax (k,p,n)) fun e=>kW (decide (k=8)) (bR x) (bR y) j i e) (b:=p) (by omega);have g:=zaa (sm (ax (k,p,n)) fun i=>sm (ax (k,p,n)) fun e=>kW (decide (k=8)) (bR x) (bR y) j i e) (b:=p) (by omega);exact⟨l,Int.le_sub_one_of_lt g⟩;have f:ax r=1:=(by obtain⟨k,p,n⟩:=r;simp only at d;simp only[ax,lr];rw[ak (by omega),ak (by omega)];rfl);obtain⟨a,b,rfl,rfl,o,h⟩:=sU hx hy f;rw[pj d];have:=axL hr d o h;simp[eV,f,sd,this]
def ch:Nat->Nat->Nat
 |_,0=>1
 |0,_+1=>0
 |n+1,k+1=>ch n k+ch n (k+1)
theorem Ol:∀{n k:Nat},n<k->ch n k=0
 |0,k+1,_=>by simp[ch]
 |n+1,k+1,h=>by simp[ch,Ol (show n<k by omega),Ol (show n<k+1 by omega)]
theorem KU (n:Nat):ch n 0=1:=by cases n<;>rfl
theorem aa8:∀n,ch n n=1
 |0=>rfl
 |n+1=>by simp[ch,aa8 n,Ol (zbG n)]
theorem Om:∀(n k:Nat),(k+1)*ch (n+1) (k+1)=(n+1)*ch n k
 |0,0=>by simp[ch]
 |0,k+1=>by simp[ch]
 |n+1,0=>by have h:=Om n 0;simp only[KU] at h⊢;have e:ch (n+1+1) (0+1)=ch (n+1) 0+ch (n+1) (0+1):=rfl;rw[e,KU];omega
 |n+1,k+1=>by have h1:=Om n k;have h2:=Om n (k+1);have a:ch (n+1+1) (k+1+1)=ch (n+1) (k+1)+ch (n+1) (k+1+1):=rfl;have b:ch (n+1) (k+1)=ch n k+ch n (k+1):=rfl;rw[a];generalize ch (n+1) (k+1+1)=B at*;generalize ch (n+1) (k+1)=A at*;generalize ch n k=u at*;generalize ch n (k+1)=v at*;subst b;grind
def tI (f:Nat->Nat):Nat->Nat
 |0=>0
 |m+1=>tI f m+f m
theorem alK (n a:Nat):∀m,tI (fun k=>ch (n+1) k*a^k) (m+1)=tI (fun k=>ch n k*a^k) (m+1)+a*tI (fun k=>ch n k*a^k) m
 |0=>by simp[tI,KU]
 |m+1=>by have h:=alK n a m;simp only[tI] at h⊢;have e:ch (n+1) (m+1)=ch n m+ch n (m+1):=rfl;rw[h,e,za1];grind
theorem aaU (a:Nat):∀n,(a+1)^n=tI (fun k=>ch n k*a^k) (n+1)
 |0=>by simp[tI,KU]
 |n+1=>by rw[alK];have e:tI (fun k=>ch n k*a^k) (n+1+1)=tI (fun k=>ch n k*a^k) (n+1):=(by show tI _ (n+1)+ch n (n+1)*a^(n+1)=_;rw[Ol (zbG n)];simp);rw[e,<-aaU a n,za1];grind
theorem alI {p:Nat} {f:Nat->Nat}:∀m,(∀k,0<k->k<=m->p∣f k)->tI f (m+1)%p=f 0%p
 |0,h=>by simp[tI]
 |m+1,h=>by have i:=alI m fun k a h2=>h k a (by omega);obtain⟨c,b⟩:=h (m+1) (by omega) (IT _);show(tI f (m+1)+f (m+1))%p=_;rw[b,za6,i]
def EA (p:Nat):Prop:=2<=p/\∀d,d∣p->d=1\/d=p
theorem EA.HO {p a:Nat} (c:EA p) (h:¬p∣a):Nat.Coprime p a:=by have:=c.2 (Nat.gcd p a) (Nat.gcd_dvd_left p a);rcases this with b|b;exact b;exact absurd (b▸Nat.gcd_dvd_right p a) h
theorem EA.ch {p k:Nat} (a:EA p) (h1:0<k) (h2:k<p):p∣ch p k:=by obtain⟨q,rfl⟩:∃q,p=q+1:=⟨p - 1,by omega⟩;obtain⟨j,rfl⟩:∃j,k=j+1:=⟨k - 1,by omega⟩;have hm:=Om q j;have hd:(q+1)∣(j+1)*Go.Am.ch (q+1) (j+1):=⟨Go.Am.ch q j,hm⟩;exact(a.HO fun h=>absurd (zbT (by omega) h) (by omega)).dvd_of_dvd_mul_left hd
theorem acg {p:Nat} (b:EA p):∀a,a^p%p=a%p
 |0=>by rw[Nat.zero_pow (by have:=b.1;omega)]
 |a+1=>by rw[aaU];show(tI _ p+Go.Am.ch p p*a^p)%p=_;obtain⟨q,rfl⟩:∃q,p=q+1:=⟨p - 1,by have:=b.1;omega⟩;have h:=alI (p:=q+1) (f:=fun k=>Go.Am.ch (q+1) k*a^k) q fun k c h2=>zbs (b.ch c (by omega)) (Nat.dvd_mul_right _ _);rw[aa8,zap,zbN,h,acg b a];simp only[KU,zbY,zbo];rw[<-zbN,zbZ]
theorem aqw {p a:Nat} (d:EA p) (f:¬p∣a):a*a^(p - 2)%p=1:=by have h2:=d.1;have h:=acg d a;have e:a^p=a*(a*a^(p - 2)):=(by obtain⟨q,rfl⟩:∃q,p=q+2:=⟨p - 2,by omega⟩;rw[za1,za1,zbt];rw[IS a (a^q),IS a (a^q*a)]);rw[e] at h;have b:0<a:=(by rcases za2 a with h|h;subst h;exact absurd ⟨0,by simp⟩ f;exact h);have g:0<a*a^(p - 2):=zbM b (Nat.pow_pos b);generalize a*a^(p - 2)=z at h g⊢;obtain⟨y,rfl⟩:∃y,z=y+1:=⟨z - 1,by omega⟩;have hd:p∣a*y:=(by have e:a*(y+1)=a*y+a:=(by rw[Nat.mul_add,zbo]);rw[e] at h;have:(a*y+a - a)%p=0:=Nat.sub_mod_eq_zero_of_mod_eq h;rw[zbt] at this;exact zaw this);obtain⟨c,rfl⟩:=(d.HO f).dvd_of_dvd_mul_left hd;rw[zbZ,za6];exact zam (by omega)
theorem asC {p:Int} (h:jY p=true):EA p.toNat:=by have hp:=m8 h;obtain⟨n,rfl⟩:=pW (show 0<=p by omega);simp only[AN];refine⟨by omega,fun d hd=>?_⟩;rcases za0 d 2 with j|j;rcases za2 d with c|c;subst c;have:=Nat.eq_zero_of_zero_dvd hd;omega;exact .inl (by omega);obtain⟨e,i⟩:=hd;simp only[jY,AT,decide_eq_true_eq,zbv,zbx] at h;have k:∀a b:Nat,2<=a->2<=b->a<=b->n≠a*b:=(by intro a b ha hb m e;have h1:a*a<=n:=(by rw[e];exact zbp _ m);have f:a<1001:=(by rcases za0 a 1001 with h|h;exact h;have:=zaC h h;omega);refine h.2 a (by simp;omega) ?_;unfold vU;have l:((a:Int))*(a:Int)=((a*a:Nat):Int):=(by norm_cast);simp only[AT,decide_eq_true_eq];constructor;rw[l];omega;rw[e];push_cast;exact Int.mul_emod_right _ _);right;rcases za0 e 2 with f|f;have:e=1:=(by rcases za2 e with c|c;subst c;simp at i;omega;omega);subst this;omega;exfalso;rcases Nat.le_total d e with g|g;exact k d e j f g i;exact k e d f j g (by rw[i,IS])
theorem aiC (x:Int) (b:Nat):∀m:Nat,(x*x)^m*x^b=x^(2*m+b)
 |0=>by simp
 |m+1=>by have a:=aiC x b m;rw[show 2*(m+1)+b=2*m+b+1+1 by omega,zaO,zaO (n:=2*m+b+1),zaO (n:=2*m+b),<-a];grind
theorem asw {p:Int} (hp:tz p):∀(n:Nat) (out x:Int),zz p out x n%p=out*x^n%p:=by intro n;induction n using Nat.strongRecOn with|ind n b=>intro out x;by_cases d:n=0;subst d;rw[asv];simp;rw[asx d,b (n/2) (by omega)];have e:x^n=(x*x)^(n/2)*x^(n%2):=(by rw[aiC,zaY]);rw[e];have c:((x*x%p)^(n/2))%p=((x*x)^(n/2))%p:=(by have:∀k:Nat,((x*x%p)^k)%p=((x*x)^k)%p:=(by intro k;induction k with|zero=>simp|succ k b=>rw[zaO,zaO,Pe,b,zaG,<-Pe]);exact this _);by_cases a:n%2=1;rw[aj a,a,Pe,c,zaG,<-Pe];congr 1;grind;rw[ak a,show n%2=0 by omega,Pe,c,<-Pe];congr 1;grind
theorem asz {p x:Int} (d:jY p=true) (hx:vl p x) (h0:x≠0):x*zz p 1 x (p - 2).toNat%p=1:=by have b:=m8 d;have i:tz p:=⟨b.1,b.2⟩;obtain⟨n,rfl⟩:=pW (show 0<=p by omega);obtain⟨a,rfl⟩:=pW hx.1;have c:=asC d;simp only[AN] at c;have f:¬n∣a:=fun h=>(by have:=zbT (by omega) h;have:=hx.2;omega);have g:=aqw c f;have e:(((n:Int)) - 2).toNat=n - 2:=(by omega);rw[Pe,asw i,e,zbl,<-Pe];exact_mod_cast g
def kE (f g:Nat->Int):Nat->Int
 |0=>0
 |n+1=>kE f g n+f n*g n
theorem alH {p:Int} {f f' g:Nat->Int}:∀n,(∀k,k<n->∃q,f k=f' k+p*q)->∃q,kE f g n=kE f' g n+p*q
 |0,_=>⟨0,by simp[kE]⟩
 |n+1,h=>by obtain⟨q,b⟩:=alH (g:=g) n fun k hk=>h k (by omega);obtain⟨a,c⟩:=h n (by omega);exact⟨q+a*g n,by simp only[kE,b,c];grind⟩
theorem Zv (f a g:Nat->Int) (c:Int):∀n,kE (fun k=>f k+c*a k) g n=kE f g n+c*kE a g n
 |0=>by simp[kE]
 |n+1=>by simp only[kE,Zv f a g c n];grind
theorem RX (f g a:Nat->Int) (c:Int):∀n,kE f (fun k=>g k - c*a k) n=kE f g n - c*kE f a n
 |0=>by simp[kE]
 |n+1=>by simp only[kE,RX f g a c n];grind
theorem Zw (f g:Nat->Int) (c:Int):∀n,kE (fun k=>f k*c) g n=kE f g n*c
 |0=>by simp[kE]
 |n+1=>by simp only[kE,Zw f g c n];grind
theorem Zx (f g:Nat->Int) (c:Int):∀n,kE f (fun k=>g k*c) n=kE f g n*c
 |0=>by simp[kE]
 |n+1=>by simp only[kE,Zx f g c n];grind
def dl (a b:Nat):Int:=if a=b then 1 else 0
def qR (p:Int) (n:Nat) (E X:fz):Prop:=∀a,a<n->∀b,b<n->∃q,kE (E a) (fun k=>X k b) n=dl a b+p*q
theorem qR.congr {p:Int} {n:Nat} {E c X:fz} (h:qR p n E X) (l:∀a,a<n->∀k,k<n->∃q,c a k=E a k+p*q):qR p n c X:=by intro a d b e;obtain⟨q,j⟩:=h a d b e;obtain⟨i,m⟩:=alH (p:=p) (f:=c a) (f':=E a) (g:=fun k=>X k b) n (l a d);exact⟨q+i,by rw[m,j];grind⟩
theorem qR.swap {p:Int} {n:Nat} {E X:fz} (h:qR p n E X) {s t:Nat} (l:s<n) (v:t<n):∃g,qR p n (uD E s t) g:=by
 let c:Nat->Nat:=fun i=>if i=s then t else if i=t then s else i
 have f:∀i,i<n->c i<n:=by
  intro i r;show(if i=s then t else if i=t then s else i)<n
  split
  ·exact v
  ·split
   ·exact l
   ·exact r
 have m:∀i j,c i=c j->i=j:=by
  intro i j;show(if i=s then t else if i=t then s else i)=(if j=s then t else if j=t then s else j)->i=j
  intro h
  repeat' split at h
  all_goals omega
 refine⟨fun k b=>X k (c b),fun a o b u=>?_⟩;obtain⟨q,w⟩:=h (c a) (f a o) (c b) (f b u);refine⟨q,?_⟩;have e:uD E s t a=E (c a):=by
  funext k;show(if a=s then E t k else if a=t then E s k else E a k)=E (if a=s then t else if a=t then s else a) k
  split
  ·rfl
  ·split<;>rfl
 rw[e,w];congr 1;unfold dl;by_cases d:a=b
 ·subst d;simp
 ·rw[ak d,ak fun h=>d (m _ _ h)]
theorem qR.az8 {p inv u:Int} {n:Nat} {E X:fz} (h:qR p n E X) {t:Nat} (ht:t<n) (hu:u*inv%p=1):∃j,qR p n (Gb p inv E t) j:=by
 have i:∃z,u*inv=1+p*z:=⟨u*inv/p,by have:=zaP (u*inv) p;omega⟩;obtain⟨z,hz⟩:=i;refine⟨fun k b=>if b=t then X k t*u else X k b,qR.congr (E:=fun a k=>if a=t then E t k*inv else E a k) (fun a g b l=>?_) (fun a g k hk=>?_)⟩
 ·obtain⟨q,f⟩:=h a g b l;by_cases c:a=t
  ·subst c;by_cases d:b=a
   ·subst d;refine⟨z+q*inv*u,?_⟩;simp only[if_true];rw[Zw,Zx,f,dl,aj rfl]
    grind
   ·refine⟨q*inv,?_⟩;simp only[if_true,ak d];rw[Zw,f,dl,ak (Ne.symm d)]
    grind
  ·by_cases d:b=t
   ·subst d;refine⟨q*u,?_⟩;simp only[ak c,if_true];rw[Zx];have:kE (fun k=>E a k) (fun k=>X k b) n=dl a b+p*q:=f;rw[this,dl,ak c]
    grind
   ·refine⟨q,?_⟩;simp only[ak c,ak d];exact f
 ·unfold Gb;by_cases c:a=t
  ·simp only[c,if_true];refine⟨-(E t k*inv/p),?_⟩;have:=zaP (E t k*inv) p;have e:p* -(E t k*inv/p)= -(p*(E t k*inv/p)):=zbP _ _;omega
  ·simp only[c,if_false];exact⟨0,by simp⟩
theorem qR.add {p f:Int} {n:Nat} {E y X:fz} (h:qR p n E X) {m t:Nat} (hm:m<n) (x:t<n) (v:m≠t) (D:∀a,a<n->∀k,k<n->∃q,y a k=(if a=m then E m k+f*E t k else E a k)+p*q):∃A,qR p n y A:=by
 refine⟨fun k b=>if b=t then X k t - f*X k m else X k b,qR.congr (E:=fun a k=>if a=m then E m k+f*E t k else E a k) (fun a u b w=>?_) D⟩
 obtain⟨e,B⟩:=h a u b w;obtain⟨l,H⟩:=h t x b w;obtain⟨j,I⟩:=h a u m hm;obtain⟨s,C⟩:=h t x m hm;have i:kE (fun k=>E a k) (fun k=>X k b) n=dl a b+p*e:=B;have z:kE (fun k=>E t k) (fun k=>X k b) n=dl t b+p*l:=H;have r:kE (fun k=>E a k) (fun k=>X k m) n=dl a m+p*j:=I;have o:kE (fun k=>E t k) (fun k=>X k m) n=dl t m+p*s:=C;have J:dl t m=0:=ak (Ne.symm v);by_cases g:a=m
 ·subst g;have G:dl a a=1:=aj rfl;by_cases c:b=t
  ·subst c;have d:dl a b=0:=ak v;have F:dl b b=1:=aj rfl;refine⟨e+f*l - f*j - f*f*s,?_⟩;simp only[if_true];rw[Zv,RX,RX,i,z,r,o,J,G,d,F]
   grind
  ·refine⟨e+f*l,?_⟩;have d:dl t b=0:=ak (Ne.symm c);simp only[if_true,ak c];rw[Zv,i,z,d]
   grind
 ·by_cases c:b=t
  ·subst c;have d:dl a m=0:=ak g;refine⟨e - f*j,?_⟩;simp only[ak g,if_true];rw[RX,i,r,d]
   grind
  ·refine⟨e,?_⟩;simp only[ak g,ak c];exact i
def RK (p:Int) (n:Nat) (s:fz×U×Int) (j:Nat):Prop:=
 (∃X,qR p n (fun a k=>s.1 a (n+k)) X)/\∀b,b<j->∀i,s.2.1.length<=i->i<n->s.1 i b=0
theorem RK.step {p:Int} {n:Nat} {s:fz×U×Int} {j:Nat} (J:jY p=true) (S:j<2*n) (I:RI p n (2*n) s j) (h:RK p n s j):RK p n (BS p n s j) (j+1):=by
 have W:tz p:=m8 J;obtain⟨⟨X,r⟩,g⟩:=h;obtain⟨M,L,d⟩:=s;simp only at r g;by_cases hl:L.length<n
 ·cases hk:BR M j (n - L.length) L.length with
  |none=>
   rw[azu (s:=(M,L,d)) hl hk];refine⟨⟨X,r⟩,fun b D i e o=>?_⟩;by_cases y:b=j
   ·subst y;exact aix hk i e (by simp only at e;omega)
   ·exact g b (by omega) i e o
  |some k=>
   rw[azv (s:=(M,L,d)) hl hk];simp only
   have O:=Yh hk;have v:k<n:=by omega
   have G:vk p n (2*n) M:=I.m;have hx:vl p (M k j):=G k v j S;have Q:uD M L.length k L.length j=M k j:=aj rfl;have C:=asz J hx O.2.2;generalize ara:zz p 1 (M k j) (p - 2).toNat=inv at C;have z:MR p M L.length j k=Gb p inv (uD M L.length k) L.length:=by unfold MR;rw[Q,ara]
   rw[z];have T:vk p n (2*n) (uD M L.length k):=alL G hl v;generalize Ih:Gb p inv (uD M L.length k) L.length=M2;have aBC:vk p n (2*n) M2:=by rw[<-Ih];exact akX W T _
   constructor
   ·obtain⟨X1,B⟩:=r.swap (s:=L.length) (t:=k) hl v;obtain⟨N,E⟩:=B.az8 (inv:=inv) (u:=M k j) hl C;have EE:qR p n (fun a b=>nv p M2 L.length j 0 a (n+b)) N:=by
     rw[anw,<-Ih];exact E
    have V:∀m,m<=n->∃w,qR p n (fun a b=>nv p M2 L.length j m a (n+b)) w:=by
     intro m;induction m with
     |zero=>intro _;exact⟨N,EE⟩
     |succ m R=>
      intro hm;obtain⟨w,l⟩:=R (by omega);by_cases A:m=L.length
      ·subst A;rw[anA];exact⟨w,l⟩
      ·refine l.add (f:=p - M2 m j) (m:=m) (t:=L.length) (by omega) hl A fun a ha b D=>?_;show∃q,nv p M2 L.length j (m+1) a (n+b)=_;by_cases H:a=m
       ·subst H;rw[aj rfl];show∃q,nv p M2 L.length j (a+1) a (n+b)=(nv p M2 L.length j a a (n+b)+(p - M2 a j)*nv p M2 L.length j a L.length (n+b))+p*q;rw[anz,anB];unfold nv;rw[aj ⟨by omega,A⟩];refine⟨-((M2 a (n+b)+(p - M2 a j)*M2 L.length (n+b))/p),?_⟩;have e1:=zaP (M2 a (n+b)+(p - M2 a j)*M2 L.length (n+b)) p;have P:=zbP p ((M2 a (n+b)+(p - M2 a j)*M2 L.length (n+b))/p);omega
       ·rw[ak H];refine⟨0,?_⟩;show nv p M2 L.length j (m+1) a (n+b)=nv p M2 L.length j m a (n+b)+p*0;unfold nv;by_cases x:a<m/\a≠L.length
        ·rw[aj x,aj ⟨by omega,x.2⟩];simp
        ·rw[ak x,ak (by omega)];simp
    exact V n (IT _)
   ·intro b D i e o;simp only[zae,zab,zay] at e;show nv p M2 L.length j n i b=0;unfold nv;rw[aj ⟨o,by omega⟩];have P:∀c,M2 i c=uD M L.length k i c:=fun c=>by rw[<-Ih];exact ak (by omega)
    have K:∀c,M2 L.length c=M k c*inv%p:=fun c=>by rw[<-Ih];show(if L.length=L.length then _ else _)=_;rw[aj rfl];congr 2;exact aj rfl
    by_cases y:b=j
    ·subst y;rw[K b,C];have:M2 i b+(p - M2 i b)*1=p:=by omega
     rw[this];exact Int.emod_self
    ·have F:b<j:=by omega
     rw[K b,g b F k O.1 v,P b];have:uD M L.length k i b=0:=by
      unfold uD;rw[ak (by omega)];split
      ·exact g b F L.length (IT _) hl
      ·exact g b F i (by omega) o
     rw[this];simp
 ·unfold BS;rw[ak hl];exact⟨⟨X,r⟩,fun b D i e o=>by simp only at e;omega⟩
def aBn (n:Nat) (M:fz):fz:=fun a b=>if b<n then M a b else dl a (b - n)
def aBo (n:Nat) (M:fz):fz:=ofD (2*n) (adT n (2*n) (aBn n M))
def aeY (p:Int) (n:Nat) (M:fz):fz×U×Int:=aiV p n (aBo n M) (2*n)
def asy (p:Int) (n:Nat) (M:fz):Prop:=∀i,i<n->(aeY p n M).2.1.getD i 0=(i:Int)
instance (p:Int) (n:Nat) (M:fz):Decidable (asy p n M):=inferInstanceAs (Decidable (∀i,i<n->(aeY p n M).2.1.getD i 0=(i:Int)))
section
variable {p:Int} {n:Nat} {M R:fz} {L:U}
end
section
variable {p:Int} {n:Nat} {M R:fz} {L:U}
end
abbrev n4:=Int×Int×U
abbrev So:=Int×Int×U×List (Int×Int×U)×U
def Sh (k:Nat) (w:U):Prop:=∀c∈w,0<=c/\c<(k:Int)
instance (k:Nat) (w:U):Decidable (Sh k w):=inferInstanceAs (Decidable (∀c∈w,0<=c/\c<(k:Int)))
def amW (x:So):Bool:=match x with
 |(m,n,a,ms,b)=>jY m&&(decide (0<=n/\n<=24)&&((vy m a&&decide ((a.length:Int)=n))&&((vy m b&&decide ((b.length:Int)=n))&&(decide (1<=ms.length/\ms.length<=4)&&ms.all fun y=>decide (y.1=n/\y.2.1=n/\y.2.2.length=n.toNat*n.toNat)&&vy m y.2.2))))
def aiS (x:So×U):Prop:=amW x.1=true/\Sh x.1.2.2.2.1.length x.2/\x.2.length<=1048576
instance (x:So×U):Decidable (aiS x):=by unfold aiS;infer_instance
theorem ai6 {m:Int} {l:U}:vy m l=true↔uP m l:=by simp only[vy,uP,zaf,Dk,decide_eq_true_eq,vl]
structure Ko (N:Nat) (p:Int) (n:Nat) (a:U) (ms:List n4) (b:U):Prop where
 pr:jY p=true
 hn:n<=N
 al:a.length=n
 ap:uP p a
 bl:b.length=n
 bp:uP p b
 l1:1<=ms.length
 l4:ms.length<=4
 hm:∀x∈ms,∃M:fz,x=((n:Int),(n:Int),adT n n M)/\vk p n n M
abbrev amr:=Ko 12
abbrev amq:=Ko 24
theorem Ko.p {N:Nat} {p:Int} {n:Nat} {a b:U} {c:List n4} (h:Ko N p n a c b):tz p:=m8 h.pr
theorem Ko.b {p:Int} {n:Nat} {a b:U} {c:List n4} (h:amr p n a c b):amq p n a c b:=⟨h.pr,za3 h.hn (by omega),h.al,h.ap,h.bl,h.bp,h.l1,h.l4,h.hm⟩
section
variable {p:Int} {n:Nat} {a b:U} {ms:List n4}
end
section
variable {p:Int} {n m:Nat} {a b a2 b2:U} {ms XO:List n4}
end
section
variable {p sg:Int} {n m:Nat} {a b a2 b2:U} {ms XO:List n4}
end
section
variable {n:Int} {d:List (Int×Int)} {a b:Int}
end
def vw (b a:Int) (l:U):U:=l.map fun x=>if x=b then a else x
def Cy (l:U) (i:Int):Int:=l.getD i.toNat 0
def Dm (n:Nat):U:=(zal n).map fun i=>((i:Nat):Int)
def Jp (s:Nat) (i:Nat) (st:Int×U) (e:Int×Int):Int×U:=
 if s.testBit i=true/\Cy st.2 e.1≠Cy st.2 e.2 then(st.1 - 1,vw (Cy st.2 e.2) (Cy st.2 e.1) st.2) else st
def parts (n:Int) (es:List (Int×Int)) (s:Int):Int×U:=y4 (Jp s.toNat) 0 (n,Dm n.toNat) es
def Xu (s:Nat) (i:Nat) (l:U) (e:Int×Int):U:=
 if s.testBit i=true then vw (max (Cy l e.1) (Cy l e.2)) (min (Cy l e.1) (Cy l e.2)) l else l
def US (l:U):Int:=((zal l.length).countP fun i=>l.getD i 0==(i:Int):Nat)
theorem W0 (n:Nat):(Dm n).length=n:=by simp[Dm]
theorem Yw (b a:Int) (l:U):(vw b a l).length=l.length:=by simp[vw]
theorem abq (p:Nat->Bool) (j:Nat):(zal (j+1)).countP p=(zal j).countP p+(if p j=true then 1 else 0):=by rw[zbO,List.countP_append,List.countP_singleton]
theorem abp (p q:Nat->Bool) (k:Nat):∀n,k<n->(∀i,i<n->i≠k->p i=q i)->p k=true->q k=false->(zal n).countP p=(zal n).countP q+1
 |0,h,_,_,_=>by omega
 |n+1,h,Wn,h1,h2=>by rw[abq,abq];by_cases b:k=n;subst b;rw[h1,h2];have:(zal k).countP p=(zal k).countP q:=List.countP_congr fun i a=>(by have:=zaM.1 a;rw[Wn i (by omega) (by omega)]);rw[this];simp;rw[abp p q k n (by omega) (fun i a=>Wn i (by omega)) h1 h2,Wn n (by omega) (by omega)];omega
structure KA (m:Nat) (l:U) (c:Int) (q:U):Prop where
 ll:l.length=m
 lq:q.length=m
 kt:∀i j:Nat,i<m->j<m->(l.getD i 0=l.getD j 0↔q.getD i 0=q.getD j 0)
 low:∀i:Nat,i<m->0<=l.getD i 0/\l.getD i 0<=(i:Int)/\l.getD (l.getD i 0).toNat 0=l.getD i 0
 dH:US l=c
theorem ai0 {b a:Int} {l:U} {i:Nat} (h:i<l.length):(vw b a l).getD i 0=if l.getD i 0=b then a else l.getD i 0:=by simp[vw,zbV,zaK,wt h]
theorem azz (b:Int) (l:U):vw b b l=l:=by
 unfold vw
 conv=>rhs;rw[<-List.map_id l]
 refine zaX fun x _=>?_;split
 ·rename_i h;exact h.symm
 ·rfl
theorem agh {b a x y:Int}:((if x=b then a else x)=(if y=b then a else y))↔(x=y\/((x=b\/x=a)/\(y=b\/y=a))):=by constructor;intro h;split at h<;>split at h<;>omega;intro h;split<;>split<;>omega
theorem KA.step {m:Nat} {l:U} {c:Int} {q:U} (h:KA m l c q) {u v:Nat} (o:u<m) (k:v<m) {s i:Nat}:
  KA m (Xu s i l ((u:Int),(v:Int))) (Jp s i (c,q) ((u:Int),(v:Int))).1 (Jp s i (c,q) ((u:Int),(v:Int))).2:=by
 cases f:s.testBit i with
 |false=>
  have w:Xu s i l ((u:Int),(v:Int))=l:=ak (by rw[f];decide);have I:Jp s i (c,q) ((u:Int),(v:Int))=(c,q):=ak (fun p=>by rw[f] at p;exact absurd p.1 (by decide));rw[w,I];exact h
 |true=>
  have V:q.getD u 0=q.getD v 0->Jp s i (c,q) ((u:Int),(v:Int))=(c,q):=fun h=>ak (fun p=>p.2 h);have T:q.getD u 0≠q.getD v 0->Jp s i (c,q) ((u:Int),(v:Int))=(c - 1,vw (q.getD v 0) (q.getD u 0) q):=fun h=>aj ⟨f,h⟩;have O:Xu s i l ((u:Int),(v:Int))=vw (max (l.getD u 0) (l.getD v 0)) (min (l.getD u 0) (l.getD v 0)) l:=aj f;obtain⟨ll,lq,kt,low,dH⟩:=h;by_cases r:q.getD u 0=q.getD v 0
  ·have hl:=(kt u v o k).2 r;rw[V r,O,hl,Int.max_self,Int.min_self,azz];exact⟨ll,lq,kt,low,dH⟩
  ·have hl:l.getD u 0≠l.getD v 0:=fun e=>r ((kt u v o k).1 e);rw[T r,O];obtain⟨J,G,F⟩:=low u o;obtain⟨C,D,t⟩:=low v k;obtain⟨lo,d,w,I,cF,N,A,S,L,n⟩:∃lo d:Nat,min (l.getD u 0) (l.getD v 0)=(lo:Int)/\max (l.getD u 0) (l.getD v 0)=(d:Int)/\lo<d/\
     (∀x:Int,(x=(d:Int)\/x=(lo:Int))↔(x=l.getD v 0\/x=l.getD u 0))/\lo<m/\l.getD lo 0=(lo:Int)/\l.getD d 0=(d:Int)/\d<m:=by
    obtain⟨a,E⟩:=pW J;obtain⟨b,f⟩:=pW C;rw[E,AN] at F;rw[f,AN] at t;rw[E] at G hl;rw[f] at D hl;rw[E,f];rcases za0 a b with K|K
    ·exact⟨a,b,by omega,by omega,K,fun x=>by omega,by omega,F,t,by omega⟩
    ·exact⟨b,a,by omega,by omega,by omega,fun x=>by omega,by omega,t,F,by omega⟩
   rw[w,I];have g:∀j,j<m->(vw (d:Int) (lo:Int) l).getD j 0=if l.getD j 0=(d:Int) then(lo:Int) else l.getD j 0:=fun j B=>ai0 (by omega)
   have M:∀j,j<m->(vw (q.getD v 0) (q.getD u 0) q).getD j 0=if q.getD j 0=q.getD v 0 then q.getD u 0 else q.getD j 0:=fun j B=>ai0 (by omega)
   refine⟨by rw[Yw];exact ll,by rw[Yw];exact lq,?_,?_,?_⟩
   ·intro x y hx hy;rw[g x hx,g y hy,M x hx,M y hy,agh,agh,N,N,kt x y hx hy,kt x u hx o,kt x v hx k,kt y u hy o,kt y v hy k]
   ·intro x hx;obtain⟨R,P,W⟩:=low x hx;rw[g x hx];by_cases z:l.getD x 0=(d:Int)
    ·rw[aj z];refine⟨by omega,by omega,?_⟩;rw[AN,g lo A,S,ak (by omega)]
    ·rw[ak z];refine⟨R,P,?_⟩;rw[g _ (by omega),W,ak z]
   ·have Q:=abp (fun j=>l.getD j 0==(j:Int)) (fun j=>(vw (d:Int) (lo:Int) l).getD j 0==(j:Int)) d m n ?_ (by rw[L];simp) (by rw[g d n,aj L];simp;omega)
    ·unfold US at dH⊢;rw[Yw,ll];rw[ll,Q] at dH;omega
    ·intro j B bk;rw[g j B];by_cases H:l.getD j 0=(d:Int)
     ·rw[aj H,H,Bool.eq_iff_iff];simp only[beq_iff_eq];constructor
      ·intro h;omega
      ·intro h;have:lo=j:=by omega
       subst this;omega
     ·rw[ak H]
theorem WZ {m i:Nat} (h:i<m):(Dm m).getD i 0=(i:Int):=by simp[Dm,zbV,zaK,zbn h]
theorem KA.init (m:Nat):KA m (Dm m) (m:Int) (Dm m):=by refine⟨W0 m,W0 m,fun _ _ _ _=>Iff.rfl,fun i a=>?_,?_⟩;rw[WZ a,AN,WZ a];omega;unfold US;rw[W0];have:(zal m).countP (fun i=>(Dm m).getD i 0==(i:Int))=(zal m).length:=(by rw[List.countP_eq_length];intro i a;rw[WZ (zaM.1 a)];simp);rw[this,zby]

def cS (om:Bool) (w:Nat) (x y:Nat->Int) (t:Nat):Int:=sm w (fun i=>sm w (fun j=>kW om x y t i j))
def pc (x y:Nat->Int) (t:Nat):Int:=sm (t+1) (fun i=>x i*y (t - i))
theorem Gk:∀(n:Nat) {f:Nat->Int},(∀i,i<n->f i=0)->sm n f=0
 |0,_,_=>rfl
 |n+1,f,h=>by simp only[sm];rw[Gk n (fun i hi=>h i (by omega)),h n (by omega)];rfl
theorem Y6 {a:Nat} {f:Nat->Int}:∀(n:Nat),a<n->(∀i,i<n->i≠a->f i=0)->sm n f=f a
 |0,h,_=>by omega
 |n+1,h,hf=>by simp only[sm];by_cases e:a=n;subst e;rw[Gk a (fun i c=>hf i (by omega) (by omega))];omega;rw[Y6 n (by omega) (fun i c b=>hf i (by omega) b),hf n (by omega) (by omega)];omega
theorem alf {m:Nat} {f:Nat->Int}:∀(n:Nat),m<=n->(∀i,i<n->m<=i->f i=0)->sm n f=sm m f
 |0,h,_=>by rw[show m=0 by omega]
 |n+1,h,hf=>by by_cases e:m=n+1;rw[e];simp only[sm];rw[alf n (by omega) (fun i hi hm=>hf i (by omega) hm),hf n (by omega) (by omega)];omega
theorem Y7 {p:Int} {f g:Nat->Int}:∀{n:Nat},(∀i,i<n->f i%p=g i%p)->sm n f%p=sm n g%p
 |0,_=>rfl
 |n+1,h=>by simp only[sm];rw[zb0,Y7 (n:=n) (fun i hi=>h i (by omega)),h n (by omega),<-zb0]
theorem KN {w t:Nat} (x y:Nat->Int) (h:t<w):cS false w x y t=pc x y t:=by
 have c:∀i,i<w->sm w (fun j=>kW false x y t i j)=if i<=t then x i*y (t - i) else 0:=by
  intro i b;split
  ·rename_i wi;rw[Y6 (a:=t - i) w (by omega) (fun j d bk=>by unfold kW;rw[ak (by omega),ak (by simp)])];unfold kW;rw[aj (by omega)]
  ·exact Gk w fun j d=>by unfold kW;rw[ak (by omega),ak (by simp)]
 unfold cS pc;rw[JS c,alf (m:=t+1) w (by omega) (fun i b hm=>ak (by omega))];exact JS fun i b=>aj (by omega)
theorem axr {p a b:Int} (c:a%p=b%p):(-a)%p=(-b)%p:=by
 have:(0 - a)%p=(0 - b)%p:=by rw[zb1,c,<-zb1]
 simpa using this
theorem aa0 {om:Bool} {w t:Nat} {p:Int} {x x' y y':Nat->Int} (hx:∀i,i<w->x i%p=x' i%p) (hy:∀i,i<w->y i%p=y' i%p):cS om w x y t%p=cS om w x' y' t%p:=by refine Y7 fun i b=>Y7 fun j a=>?_;have hm:(x i*y j)%p=(x' i*y' j)%p:=(by rw[Pe,hx i b,hy j a,<-Pe]);unfold kW;split;exact hm;split;exact axr hm;rfl
theorem Ud {om:Bool} {w t:Nat} {x x' y y':Nat->Int} (hx:∀i,i<w->x i=x' i) (hy:∀i,i<w->y i=y' i):cS om w x y t=cS om w x' y' t:= JS fun i b=>JS fun j a=>by unfold kW;rw[hx i b,hy j a]
theorem ay0 (x y z:Nat->Int) {t:Nat} (h:t<6):pc (pc x y) z t=pc x (pc y z) t:=by
 match t,h with
 |0,_=>simp only[pc,sm,Nat.reduceSub,Nat.reduceAdd,zan];try grind
 |1,_=>simp only[pc,sm,Nat.reduceSub,Nat.reduceAdd,zan];try grind
 |2,_=>simp only[pc,sm,Nat.reduceSub,Nat.reduceAdd,zan];try grind
 |3,_=>simp only[pc,sm,Nat.reduceSub,Nat.reduceAdd,zan];try grind
 |4,_=>simp only[pc,sm,Nat.reduceSub,Nat.reduceAdd,zan];try grind
 |5,_=>simp only[pc,sm,Nat.reduceSub,Nat.reduceAdd,zan];try grind
theorem EL (x y:Nat->Int):cS true 4 x y 0=x 0*y 0 - x 1*y 3 - x 2*y 2 - x 3*y 1:=by simp[cS,sm,kW];grind
theorem EM (x y:Nat->Int):cS true 4 x y 1=x 0*y 1+x 1*y 0 - x 2*y 3 - x 3*y 2:=by simp[cS,sm,kW];grind
theorem EN (x y:Nat->Int):cS true 4 x y 2=x 0*y 2+x 1*y 1+x 2*y 0 - x 3*y 3:=by simp[cS,sm,kW];grind
theorem EO (x y:Nat->Int):cS true 4 x y 3=x 0*y 3+x 1*y 2+x 2*y 1+x 3*y 0:=by simp[cS,sm,kW]
theorem anH (x y z:Nat->Int) {t:Nat} (h:t<4):cS true 4 (cS true 4 x y) z t=cS true 4 x (cS true 4 y z) t:=by
 match t,h with
 |0,_=>rw[EL,EL];simp only[EL,EM,EN,EO];grind
 |1,_=>rw[EM,EM];simp only[EL,EM,EN,EO];grind
 |2,_=>rw[EN,EN];simp only[EL,EM,EN,EO];grind
 |3,_=>rw[EO,EO];simp only[EL,EM,EN,EO];grind
theorem anj {k p:Int} {w:Nat} (c:NK k p w) (x y z:Nat->Int) {t:Nat} (h:t<w):cS (decide (k=8)) w (cS (decide (k=8)) w x y) z t=cS (decide (k=8)) w x (cS (decide (k=8)) w y z) t:=by by_cases a:k=8;obtain rfl:=c.w8 a;rw[decide_eq_true a];exact anH x y z h;rw[decide_eq_false a];have h6:=c.cw;rw[Ud (x':=pc x y) (y':=z) (fun i b=>KN x y b) (fun _ _=>rfl),KN _ _ h,Ud (x':=x) (y':=pc y z) (fun _ _=>rfl) (fun i b=>KN y z b),KN _ _ h];exact ay0 x y z (by omega)
theorem Uv (p:Int) (om:Bool) (w:Nat) (x y:Nat->Int):uT p om w x y=gV w fun t=>cS om w x y t%p:=rfl
theorem EQ {r:Int×Int×Int} (h:r.1=7\/r.1=8) (x y:U):mR r x y=uT r.2.1 (decide (r.1=8)) (ax r) (bR x) (bR y):=aj h
theorem agi {a b c p:Int} (d:0<=p) (ha:0<=a) (hb:0<=b) (e:0<=c):min (min (a*b) p*c) p=min (a*b*c) p:=by generalize hm:a*b=m;by_cases h:m<=p;rw[show min m p=m by omega];rw[show min m p=p by omega];by_cases f:c=0;subst f;simp;have h1:p*1<=p*c:=zag (by omega) d;have h2:p*c<=m*c:=Int.mul_le_mul_of_nonneg_right (by omega) e;omega
theorem Kl {r:Int×Int×Int} (a:¬(r.1=7\/r.1=8)):ax r=1:=by obtain⟨k,p,n⟩:=r;simp only at a;simp only[ax,lr];rw[ak (by omega),ak (by omega)];rfl
theorem axK {r:Int×Int×Int} (hr:eG r=true) (h:¬(r.1=7\/r.1=8)) {a b c:Int} (f:0<=a/\a<=dO r) (e:0<=b/\b<=dO r) (g:0<=c/\c<=dO r):nU r (nU r a b) c=nU r a (nU r b c):=by obtain⟨k,p,n⟩:=r;simp only at h;rcases sE hr with⟨rfl,rfl,rfl⟩|⟨rfl,d,rfl⟩|⟨rfl,d,rfl⟩|⟨rfl,d,rfl⟩|⟨rfl,d,rfl⟩|⟨rfl,rfl,hn⟩|⟨rfl,d,hn⟩|⟨rfl,d,ki,rfl⟩;have o:∀u v,nU (1,0,0) u v=((u.toNat&&&v.toNat:Nat):Int):=fun _ _=>rfl;rw[o,o,o,o,AN,AN,zbU];have o:∀u v,nU (2,p,0) u v=u*v%p:=fun _ _=>rfl;rw[o,o,o,o,Pe,zaG,<-Pe,Pe a,zaG,<-Pe,zaV];have o:∀u v,nU (3,p,0) u v=min (u*v) p:=fun _ _=>rfl;rw[o,o,o,o,agi (by omega) f.1 e.1 g.1,zb2 a (min _ _),agi (by omega) e.1 g.1 f.1,zaV a b c,zb2 a];have o:∀u v,nU (4,p,0) u v=min (u+v) p:=fun _ _=>rfl;rw[o,o,o,o];omega;have o:∀u v,nU (5,p,0) u v=min u v:=fun _ _=>rfl;rw[o,o,o,o];omega;have o:∀u v,nU (6,0,n) u v=((u.toNat&&&v.toNat:Nat):Int):=fun _ _=>rfl;rw[o,o,o,o,AN,AN,zbU];omega;omega
theorem mul_assoc {r:Int×Int×Int} {x y z:U} (hr:eG r=true) (hx:eV r x=true) (hy:eV r y=true) (m:eV r z=true):mR r (mR r x y) z=mR r x (mR r y z):=by by_cases d:r.1=7\/r.1=8;obtain⟨k,p,n⟩:=r;have c:=KQ hr d;rw[EQ d,EQ d,EQ d,EQ d];simp only;refine Aa fun t q=>?_;show cS (decide (k=8)) (ax (k,p,n)) (bR (uT p (decide (k=8)) (ax (k,p,n)) (bR x) (bR y))) (bR z) t%p=cS (decide (k=8)) (ax (k,p,n)) (bR x) (bR (uT p (decide (k=8)) (ax (k,p,n)) (bR y) (bR z))) t%p;have h:cS (decide (k=8)) (ax (k,p,n)) (bR (uT p (decide (k=8)) (ax (k,p,n)) (bR x) (bR y))) (bR z) t%p=cS (decide (k=8)) (ax (k,p,n)) (cS (decide (k=8)) (ax (k,p,n)) (bR x) (bR y)) (bR z) t%p:= aa0 (fun i f=>by rw[Uv,Lh _ f,zaG]) (fun _ _=>rfl);have s:cS (decide (k=8)) (ax (k,p,n)) (bR x) (bR (uT p (decide (k=8)) (ax (k,p,n)) (bR y) (bR z))) t%p=cS (decide (k=8)) (ax (k,p,n)) (bR x) (cS (decide (k=8)) (ax (k,p,n)) (bR y) (bR z)) t%p:= aa0 (fun _ _=>rfl) (fun i f=>by rw[Uv,Lh _ f,zaG]);rw[h,s,anj c _ _ _ q];have g:=Kl d;obtain⟨a,b,rfl,rfl,l,o⟩:=sU hx hy g;obtain⟨_,c,e,rfl,_,j⟩:=sU hx m g;rw[pj d,pj d,pj d,pj d,axK hr d l o j]
theorem aqA {k p n:Int} (hk:k=7\/k=8) {j:Nat} (a:j<ax (k,p,n)):bR (Jl (k,p,n)) j=if j=0 then 1 else 0:=by rw[axF,Lh _ a,ak (show¬k=4 by omega),ak (show¬(k=5\/k=6) by omega)]
theorem ani {k p:Int} {w:Nat} (c:NK k p w) (u:Nat->Int) (v:Int) {t:Nat} (h:t<w):cS (decide (k=8)) w u (fun j=>if j=0 then v else 0) t=u t*v:=by
 by_cases b:k=8
 ·obtain rfl:=c.w8 b;rw[decide_eq_true b];match t,h with
  |0,_=>rw[EL];simp
  |1,_=>rw[EM];simp
  |2,_=>rw[EN];simp
  |3,_=>rw[EO];simp
 ·rw[decide_eq_false b,KN _ _ h];unfold pc;rw[Y6 (a:=t) (t+1) (by omega) (fun i hi bk=>by simp only;rw[ak (by omega),Int.mul_zero])];simp only
  rw[aj (by omega)]
theorem axM {k p n:Int} (hr:eG (k,p,n)=true) (hk:¬(k=7\/k=8)) {a:Int} (ha:0<=a/\a<=dO (k,p,n)):nU (k,p,n) a (if k=4 then 0 else if k=5\/k=6 then dO (k,p,n) else 1)=a:=by rcases sE hr with⟨rfl,rfl,rfl⟩|⟨rfl,b,rfl⟩|⟨rfl,b,rfl⟩|⟨rfl,b,rfl⟩|⟨rfl,b,rfl⟩|⟨rfl,rfl,hn⟩|⟨rfl,b,hn⟩|⟨rfl,b,ki,rfl⟩;have e:dO (1,0,0)=1:=rfl;have c:a=0\/a=1:=(by omega);rcases c with rfl|rfl<;>decide;have e:dO (2,p,0)=p - 1:=rfl;have:=m8 b;show a*1%p=a;rw[zbJ,zbz (by omega) (by omega)];have e:dO (3,p,0)=p:=rfl;show min (a*1) p=a;omega;have e:dO (4,p,0)=p:=rfl;show min (a+0) p=a;omega;have e:dO (5,p,0)=p:=rfl;show min a p=a;omega;have e:dO (6,0,n)=2^n.toNat - 1:=rfl;have e2:(((2:Nat)^n.toNat:Nat):Int)=(2:Int)^n.toNat:=(by push_cast;rfl);show((a.toNat&&&(2^n.toNat - 1:Int).toNat:Nat):Int)=a;rw[show(2^n.toNat - 1:Int).toNat=2^n.toNat - 1 by omega,Nat.and_two_pow_sub_one_eq_mod,zam (by omega)];omega;omega;omega
theorem mul_one {r:Int×Int×Int} {x:U} (hr:eG r=true) (hx:eV r x=true):mR r x (Jl r)=x:=by
 obtain⟨k,p,n⟩:=r;by_cases a:k=7\/k=8
 ·have c:=KQ hr a;rw[EQ a,Uv];simp only
  have l:dO (k,p,n)=p - 1:=by
   simp only[dO];rw[ak (by omega),ak (by omega),ak (by omega)]
  refine(Aa fun t d=>?_).trans (NB (jv hx));rw[Ud (x':=bR x) (y':=fun j=>if j=0 then 1 else 0) (fun _ _=>rfl) (fun i h=>aqA a h),ani c _ _ d,zbJ]
  have:=rO hx d;rw[l] at this;exact zbz this.1 (by omega)
 ·have b:=Kl (r:=(k,p,n)) a;obtain⟨e,g⟩:=AJ hx b;have f:Jl (k,p,n)=[if k=4 then 0 else if k=5\/k=6 then dO (k,p,n) else 1]:=by simp only[Jl];exact azC b
  rw[e,f,pj a,axM hr a g]
abbrev Rg:=Int×Int×Int
abbrev T3:=U×U×U
abbrev gW:=Int×List U
def gM (r:Rg) (t:T3):Bool:=eG r&&(decide (0<=fg t.1 t.2.1)&&(decide ((t.2.2.length:Int)=fg t.1 t.2.1*lr r)&&t.2.2.all (sd (dO r))))
def Ck:Rg×T3->Option Bool:=fun x=>if x.2.1.length<=1048576/\x.2.2.1.length<=1048576/\x.2.2.2.length<=1048576 then some (gM x.1 x.2) else none
def yw:Rg×T3->Option Bool:=Ck
def G4:T3->Option T3:=fun x=>if x.1.length<=1048576/\x.2.1.length<=1048576/\x.2.2.length<=1048576 then some x else none
def kf (R:List U) (ix:U) (i:Nat):Int:=(R.getD i []).getD (ix.getD i 0).toNat 0
def Gp (x:gW×U):Prop:=(1<=x.1.1/\x.1.1<=12)/\x.2.length<=12/\∀i,i<x.2.length->i<x.1.2.length/\(0<=x.2.getD i 0/\(x.2.getD i 0).toNat<(x.1.2.getD i []).length)/\0<=kf x.1.2 x.2 i/\kf x.1.2 x.2 i<=12
instance (x:gW×U):Decidable (Gp x):=by unfold Gp;infer_instance
def Ey:gW×U->Option Int:=fun x=>if Gp x then some (sm x.2.length (kf x.1.2 x.2)%x.1.1) else none
def Cb:gW×U->Option U:=fun x=>if Gp x then some (dd x.2.length (kf x.1.2 x.2)) else none
def yy:U->Option Int:=fun l=>if l.length<=12/\∀v∈l,0<=v/\v<=12 then some (sm l.length fun i=>l.getD i 0) else none
def vJ:U->Option Int:=fun l=>if(l.length<=12\/l.length<=1000/\aC l<=1073741824)/\∀v∈l,1<=v/\v<=8 then some (fp l) else none
def GM:U×Int->Option U:=xg
def gC (l:U) (o:Nat) (x:U):U:=l.take o++x++l.drop (o+x.length)
def Ys (x:Rg×T3×Int×U):Prop:=eG x.1=true/\0<=x.2.2.1/\x.2.2.1.toNat*ax x.1+x.2.2.2.length<=x.2.1.2.2.length/\x.2.1.2.2.length<=1048576
instance (x:Rg×T3×Int×U):Decidable (Ys x):=by unfold Ys;infer_instance
def xi:Rg×T3×Int×U->Option U:=fun x=>if Ys x then some (gC x.2.1.2.2 (x.2.2.1.toNat*ax x.1) x.2.2.2) else none
def OP (x:Rg×T3×Int):Prop:=eG x.1=true/\0<=x.2.2/\(x.2.2.toNat+1)*ax x.1<=x.2.1.2.2.length/\x.2.1.2.2.length<=1048576
instance (x:Rg×T3×Int):Decidable (OP x):=by unfold OP;infer_instance
def xr (D:U) (c:gW) (n:Nat):Bool:=decide (sm D.length (kf c.2 (aM D n))%c.1≠0)
def mD (r:Rg) (D:U) (c:gW) (A:U):Nat->U
 |0=>A
 |k+1=>if xr D c k=true then gC (mD r D c A k) (k*ax r) (eX r) else mD r D c A k
def yW (x:Rg×T3×gW):Prop:=(x.2.1.1.length<=1048576/\x.2.1.2.1.length<=1048576/\x.2.1.2.2.length<=1048576)/\Hw (x.2.1,x.2.2)
instance (x:Rg×T3×gW):Decidable (yW x):=by unfold yW;infer_instance
def HN (r:Rg) (t:T3) (c:gW):T3×Bool:=if gM r t=true/\mY (t,c)=true then((t.1,t.2.1,mD r t.2.1 c t.2.2 (aC t.2.1)),true) else(([],[],[]),false)
def GW:Rg×T3×gW->Option (T3×Bool):=fun x=>if yW x then some (HN x.1 x.2.1 x.2.2) else none
def oO (r:Rg) (t:T3) (c:gW):Bool:=decide (gM r t=true/\mY (t,c)=true/\mD r t.2.1 c t.2.2 (aC t.2.1)=t.2.2)
def vN:Rg×T3×gW->Option Bool:=fun x=>if yW x then some (oO x.1 x.2.1 x.2.2) else none
def yu:Rg×T3×gW->Option Bool:=vN
def Th (NN:Nat):((Int×(Int×Int))×(U×(U×U)))->(Option Bool):=
 (fun(((i0,i1,i2),l3,l4,l5):((Int×(Int×Int))×(U×(U×U))))=>
 (rL (l3,l4,l5)).ae (fun i6=>
 (GY (i0,i1,i2)).ae (fun b7=>
 au (df b7)
 (some false)
 (au (bO i6 (0:Int))
 (some false)
 ((yE (i0,i1,i2)).ae (fun i8=>
 au (fy (aD (ab l5)) (f6 .i64 i6 i8))
 (some false)
 (bK (cj NN (fun(((l9,fO,dX),eC,fG,gf):((U×(Int×Int))×(Int×(Int×Int))))=>
 au (bO dX fO)
 ((bF l9 dX).ae (fun iG=>
 (Kq (eC,fG,gf)).ae (fun fH=>
 (nY (iG,(0:Int),fH)).ae (fun b17=>
 au (df b17)
 (some (AI (AI false)))
 (some (co ((l9,fO,bo .i64 dX 1),eC,fG,gf)))))))
 (some (AI (co ()))))
 ((l5,aD (ab l5),(0:Int)),i0,i1,i2))
 (fun _=>
 some true))))))))
def Su (NN:Nat):((Int×(Int×Int))×(U×(U×U)))->(Option Bool):=
 (fun(((i0,i1,i2),l3,l4,l5):((Int×(Int×Int))×(U×(U×U))))=>
 (GI (i0,i1,i2)).ae (fun b6=>
 au (df b6)
 (some false)
 ((tL (l3,l4,l5)).ae (fun i7=>
 au (fy i7 ((-1:Int)))
 ((tM (i0,i1,i2)).ae (fun i8=>
 au (cu (aD (ab l5)) (f6 .i64 i7 i8))
 ((GL ((i0,i1,i2),l5)).ae (fun b9=>
 some b9))
 (some false)))
 (some false)))))
def Tn (NN:Nat):(U×(U×U))->(Option (U×(U×U))):=
 (fun((l0,l1,l2):(U×(U×U)))=>
 (mw l0).ae (fun l3=>
 (mw l1).ae (fun l4=>
 (mw l2).ae (fun l5=>
 (ed l3 (ab l3)).ae (fun l6=>
 (ed l4 (ab l4)).ae (fun l7=>
 (ed l5 (ab l5)).ae (fun l8=>
 some (l6,l7,l8))))))))
def TE (NN:Nat):((Int×(List U))×U)->(Option Int):=
 (fun(((i0,l1),l2):((Int×(List U))×U))=>
 bK (cj NN (fun(((i3,l4,i5,i6),i7,l8):((Int×(U×(Int×Int)))×(Int×(List U))))=>
 au (bO i6 i5)
 ((bF l4 i6).ae (fun i9=>
 (bF l8 i6).ae (fun bS=>
 (bF bS i9).ae (fun dX=>
 some (co ((bo .i64 i3 dX,l4,i5,bo .i64 i6 1),i7,l8))))))
 (some (AI (co (i3,i7,l8)))))
 (((0:Int),l2,aD (ab l2),(0:Int)),i0,l1))
 (fun(eC,fG,cO)=>
 (hZ eC fG).ae (fun iG=>
 some iG)))
def Sy (NN:Nat):((Int×(List U))×U)->(Option U):=
 (fun(((i0,l1),l2):((Int×(List U))×U))=>
 (kB (aD (ab l2)) (aD (ab l2)) 8).ae (fun k3=>
 bK ((aO 0 k3 (ab (cR k3 (0:Int)))).ae (fun _=>
 cj NN (fun(((l4,i5,i6),(i7,l8),l9):((U×(Int×Int))×((Int×(List U))×U)))=>
 au (bO i6 i5)
 ((bF l4 i6).ae (fun fO=>
 (bF l8 i6).ae (fun cZ=>
 (bF cZ fO).ae (fun eC=>
 (cN i6 (ab l9)).ae (fun W7=>
 (bQ l9 (av 0 W7)).ae (fun gf=>
 (aO 0 (ab l9) (ab (bB l9 (av 0 W7) eC))).ae (fun _=>
 some (co ((l4,i5,bo .i64 i6 1),(i7,l8),bB l9 (av 0 W7) eC)))))))))
 ((ah l9 (
 some (co l9))).ae (fun dk=>
 some (AI dk))))
 ((l2,aD (ab l2),(0:Int)),(i0,l1),cR k3 (0:Int))))
 (fun dm=>
 (ed dm (ab dm)).ae (fun dA=>
 some dA))))
def SS (NN:Nat):U->(Option Int):=
 (fun(l0:U)=>
 bK (cj NN (fun((i1,l2,i3,i4):(Int×(U×(Int×Int))))=>
 au (bO i4 i3)
 ((bF l2 i4).ae (fun i5=>
 some (co (bo .i64 i1 i5,l2,i3,bo .i64 i4 1))))
 (some (AI (co i1))))
 ((0:Int),l0,aD (ab l0),(0:Int)))
 (fun i6=>
 some i6))
def SM (NN:Nat):U->(Option Int):=
 (fun(l0:U)=>
 bK (cj NN (fun((i1,l2,i3,i4):(Int×(U×(Int×Int))))=>
 au (bO i4 i3)
 ((bF l2 i4).ae (fun i5=>
 some (co (f6 .i64 i1 i5,l2,i3,bo .i64 i4 1))))
 (some (AI (co i1))))
 ((1:Int),l0,aD (ab l0),(0:Int)))
 (fun i6=>
 some i6))
def aad (NN:Nat):(U×Int)->(Option U):=
 (fun((l0,i1):(U×Int))=>
 (kB (aD (ab l0)) (aD (ab l0)) 8).ae (fun k2=>
 bK ((aO 0 k2 (ab (cR k2 (0:Int)))).ae (fun _=>
 cj NN (fun(((l3,i4,i5),l6):((U×(Int×Int))×U))=>
 au (fR (0:Int) i5)
 ((bF l3 i5).ae (fun i7=>
 (hZ i4 i7).ae (fun i8=>
 (cN i5 (ab l6)).ae (fun k9=>
 (bQ l6 (av 0 k9)).ae (fun fO=>
 (bF l3 i5).ae (fun dX=>
 (JA .i64 i4 dX).ae (fun eC=>
 (aO 0 (ab l6) (ab (bB l6 (av 0 k9) i8))).ae (fun _=>
 some (co ((l3,eC,iw .i64 i5 1),bB l6 (av 0 k9) i8))))))))))
 ((ah l6 (
 some (co l6))).ae (fun cM=>
 some (AI cM))))
 ((l0,i1,iw .i64 (aD (ab l0)) (1:Int)),cR k2 (0:Int))))
 (fun cO=>
 (ed cO (ab cO)).ae (fun dk=>
 some dk))))
theorem aQ {α β:Type} (x:α) (f:α->Option β):(some x).ae f=f x:=by
 have h:∀o:Option α,o=some x->o.ae f=f x:=by intro o h;subst h;rfl
 exact h _ rfl
theorem mg {r:Rg} {L D A:U} (h:gM r (L,D,A)=true):eG r=true/\(D.length<=12/\(∀x∈D,1<=x/\x<=8))/\fg L D=(aC D:Int)/\(1<=aC D/\aC D<=4096)/\A.length=aC D*ax r/\jG D/\Ax 4096 D=(aC D:Int)/\fp D=(aC D:Int)/\A.all (sd (dO r))=true:=by simp only[gM,AT,decide_eq_true_eq] at h;obtain⟨c,d,f,i⟩:=h;have j:=mq c;by_cases a:ly L D=true/\fp D<=4096;have e:fg L D=fp D:=aj a;have hd:=qU a.1;have hl:=gH a.1;have b:=tC (D:=D) fun x hx=>(hd x hx).1;have g:=vt (D:=D) fun x hx=>(hd x hx).1;refine⟨c,⟨by omega,hd⟩,e.trans b,⟨g,by omega⟩,?_,⟨by omega,fun x hx=>by have:=hd x hx;omega⟩,?_,b,i⟩;rw[e,b,j.1] at f;exact_mod_cast f;unfold Ax;rw[KO (by decide) _ 0 1 (fun x hx=>(hd x hx).1) (by decide) (by decide),zbl,b,zbK (by omega)];have e:fg L D= -1:=ak a;rw[e] at d;exact absurd d (by decide)
theorem al4 (L D:U):fg L D= -1\/(0<=fg L D/\fg L D<=4096):=by unfold fg;split;rename_i h;have hd:=qU h.1;have hI:=tC (D:=D) fun x hx=>(hd x hx).1;right;omega;exact .inl rfl
theorem alX {L D:U} {r:Rg} (h:eG r=true) (b:0<=fg L D):f6 .i64 (fg L D) (lr r)=fg L D*lr r:=by have hw:=mq h;have a:fg L D<=4096:=(by rcases al4 L D with e|e;omega;exact e.2);have h2:fg L D*lr r<=4096*6:=zav a (by omega) (by omega) (by decide);have h3:0<=fg L D*lr r:=za5 b (by omega);exact rE
theorem apX (x:Rg×T3) (y:Bool) (h:Ck x=some y):Th aN x=some y:=by obtain⟨⟨k,p,n⟩,L,D,A⟩:=x;simp only[Ck] at h;split at h;rename_i d;rw[<-h];simp only[Th];rw[show rL (L,D,A)=some (fg L D) from aj ⟨d.1,d.2.1⟩];simp only[aQ,GY];(cases hr:eG (k,p,n) with|false=>rw[aX (b:=df false) rfl];simp[gM,hr]|true=>rw[aW (b:=df true) rfl];by_cases e:0<=fg L D;rw[aW (dQ e)];simp only[yE,aQ];rw[alX hr e,nl];by_cases hl:(A.length:Int)=fg L D*lr (k,p,n);rw[aW (show fy _ _=false by unfold fy;rw[hl];simp)];have j:Kq (k,p,n)=some (dO (k,p,n)):=aj hr;rw[FM A (fun i=>((A,(A.length:Int),(i:Int)),k,p,n)) (sd (dO (k,p,n))) (.inr false) (.inl ()) ?_ ?_ ?_ ?_ (dE (by have:=d.2.2;omega))];cases c:A.all (sd (dO (k,p,n)));rw[ak (by simp)];simp[gM,hr,c,bK];rw[aj rfl];simp[gM,hr,c,bK,e,hl];intro i a c f;have g:decide (0<=a/\a<=dO (k,p,n))=true:=f;dsimp only;rw[aX (dg (by have:=DC c;omega)),cE,c,aQ,j];simp only[nY,aQ];rw[g,aW XU,tw c (by have:=d.2.2;omega)];intro i a c f;have g:decide (0<=a/\a<=dO (k,p,n))=false:=f;dsimp only;rw[aX (dg (by have:=DC c;omega)),cE,c,aQ,j];simp only[nY,aQ];rw[g,aX (b:=df false) rfl];dsimp only;rw[aW dQ];rfl;rw[aX (show fy _ _=true from bne_iff_ne.2 hl)];simp[gM,hr,hl];rw[aX dg];simp[gM,hr,e]);cases h
theorem ao3 (x:Rg×T3) (y:Bool) (h:yw x=some y):Su aN x=some y:=by obtain⟨⟨k,p,n⟩,L,D,A⟩:=x;simp only[yw,Ck] at h;split at h;rename_i a;rw[<-h];simp only[Su,GI,aQ];(cases hr:eG (k,p,n) with|false=>rw[aX (b:=df false) rfl];simp[gM,hr]|true=>rw[aW (b:=df true) rfl,show tL (L,D,A)=some (fg L D) from aj ⟨a.1,a.2.1⟩];simp only[aQ];by_cases c:0<=fg L D;rw[aX (show fy _ _=true from bne_iff_ne.2 (by omega))];simp only[tM,aQ];rw[alX hr c,nl];by_cases hl:(A.length:Int)=fg L D*lr (k,p,n);rw[aX (show cu _ _=true from beq_iff_eq.2 hl),show GL ((k,p,n),A)=some _ from aj ⟨hr,by have:=a.2.2;omega⟩,aQ];simp[gM,hr,c,hl];rw[aW (show cu _ _=false from beq_eq_false_iff_ne.2 hl)];simp[gM,hr,hl];have:fg L D= -1:=(by rcases al4 L D with e|e<;>omega);rw[aW (show fy _ _=false by unfold fy;rw[this];rfl)];simp[gM,hr,c]);cases h
theorem ap8 (x:T3) (y:T3) (h:G4 x=some y):Tn aN x=some y:=by obtain⟨L,D,A⟩:=x;simp only[G4] at h;split at h;rename_i a;rw[<-h];simp only[Tn];rw[show mw L=some L from aj (by have:=a.1;omega),show mw D=some D from aj (by have:=a.2.1;omega),show mw A=some A from aj (by have:=a.2.2;omega)];simp only[aQ,iJ];cases h
theorem aa6 {m:Int} {R:List U} {ix:U} (h:Gp ((m,R),ix)) {i:Nat} (d:i<ix.length): bF ix (i:Int)=some (ix.getD i 0)/\bF R (i:Int)=some (R.getD i [])/\bF (R.getD i []) (ix.getD i 0)=some (kf R ix i):=by obtain⟨_,_,e⟩:=h;obtain⟨b,⟨c,a⟩,_⟩:=e i d;dsimp only at b c a;refine⟨by rw[cE,getD_some 0 d],by rw[cE,getD_some [] b],?_⟩;unfold kf;obtain⟨v,f⟩:=pW c;rw[f] at a⊢;rw[cE,AN];exact getD_some 0 a
theorem Ok {m:Int} {R:List U} {ix:U} (h:Gp ((m,R),ix)):∀k,k<=ix.length->0<=sm k (kf R ix)/\sm k (kf R ix)<=12*k
 |0,_=>⟨zaz 0,zaz 0⟩
 |k+1,hk=>by have ih:=Ok h k (by omega);have:=(h.2.2 k (by dsimp only;omega)).2.2;simp only[sm];dsimp only at this;omega
theorem aqu (x:gW×U) (y:Int) (h:Ey x=some y):TE aN x=some y:=by obtain⟨⟨m,R⟩,ix⟩:=x;simp only[Ey] at h;split at h;rename_i a;rw[<-h];have hl:=a.2.1;dsimp only at hl;have hm:=a.1;dsimp only at hm;simp only[TE];rw[eR (fun k=>((sm k (kf R ix),ix,aD (ab ix),(k:Int)),m,R)) ix.length ?a1 ?a2 ?a3 dE];(case a3=>rfl);(case a2=>dsimp only;rw[aW (iQ ix)]);(case a1=>intro k c;obtain⟨d,e,g⟩:=aa6 a c;have b:=Ok a k (by omega);have f:=(a.2.2 k c).2.2;dsimp only at f;dsimp only;rw[aX (dg (by rw[nl];omega)),d,aQ,e,aQ,g,aQ,d6,d6];rfl);have b:=Ok a ix.length (IT _);simp only[bK,zaA];rw[qM b.1 (by omega)];simp only[aQ];cases h
theorem ao8 (x:gW×U) (y:U) (h:Cb x=some y):Sy aN x=some y:=by
 obtain⟨⟨m,R⟩,ix⟩:=x;simp only[Cb] at h;split at h
 ·rename_i b;rw[<-h];have hl:=b.2.1;dsimp only at hl;simp only[Sy,ah];rw[qH (n:=ab ix) (by simp only[ab,eD];omega)];simp only[aQ];rw[show aO 0 (ab ix) (ab (cR (ab ix) (0:Int)))=some () by rw[uv];exact be _];simp only[aQ];rw[eR (fun k=>((ix,aD (ab ix),(k:Int)),(m,R),dd ix.length fun q=>if q<k then kf R ix q else 0)) (r:=co (dd ix.length (kf R ix))) ix.length ?a1 ?a2 ?a3 dE]
  case a3=>
   rw[YD];have:dd (ab ix) (fun _=>(0:Int))=dd ix.length fun q=>if q<0 then kf R ix q else 0:=ko fun q _=>by rw[ak (by omega)]
   rw[this];rfl
  case a2=>
   dsimp only
   rw[aW (iQ ix)];simp only[xF,aQ];rw[show dd ix.length (fun q=>if q<ix.length then kf R ix q else 0)=dd ix.length (kf R ix) from ko fun q f=>by rw[aj f]]
  case a1=>
   intro k a;obtain⟨c,d,g⟩:=aa6 b a;dsimp only
   rw[aX (dg (by rw[nl];omega)),c,aQ,d,aQ,g,aQ,CD _ a];simp only[aQ,f9];rw[EZ _ a];simp only[aQ];rw[F8,xF];simp only[aQ];rw[d6];have:dd ix.length (fun q=>if q=k then kf R ix k else if q<k then kf R ix q else 0)=dd ix.length fun q=>if q<k+1 then kf R ix q else 0:=ko fun q _=>by
    by_cases e:q=k
    ·rw[aj e,aj (by omega),e]
    ·rw[ak e];by_cases h:q<k
     ·rw[aj h,aj (by omega)]
     ·rw[ak h,ak (by omega)]
   rw[this];rfl
  simp only[bK,zaA,iJ,aQ]
 ·cases h
theorem apu (x:U) (y:Int) (h:yy x=some y):SS aN x=some y:=by simp only[yy] at h;split at h;rename_i e;rw[<-h];obtain⟨hl,a⟩:=e;have d:∀k,k<=x.length->0<=sm k (fun i=>x.getD i 0)/\sm k (fun i=>x.getD i 0)<=12*k:=(by intro k;induction k with|zero=>exact fun _=>⟨zaz 0,zaz 0⟩|succ k b=>intro c;have b:=b (by omega);have:=a _ (BY (getD_some 0 (show k<x.length by omega)));simp only[sm];omega);simp only[SS];rw[eR (fun k=>(sm k (fun i=>x.getD i 0),x,aD (ab x),(k:Int))) x.length ?a1 ?a2 ?a3 dE];(case a3=>rfl);(case a2=>dsimp only;rw[aW (iQ x)]);(case a1=>intro k c;have g:=getD_some (0:Int) c;have h1:=d k (by omega);have h2:=a _ (BY g);dsimp only;rw[aX (dg (by rw[nl];omega)),cE,g,aQ,d6,d6];rfl);simp only[bK,zaA];cases h
theorem aiG:∀(l:U) (k:Nat),aC l=aC (l.take k)*aC (l.drop k)
 |[],k=>by simp[aC]
 |x::l,0=>by simp[aC]
 |x::l,k+1=>by simp only[List.take_succ_cons,List.drop_succ_cons,aC];rw[aiG l k,zbu]
theorem apq (x:U) (y:Int) (h:vJ x=some y):SM aN x=some y:=by simp only[vJ] at h;split at h;rename_i o;rw[<-h];obtain⟨hl,c⟩:=o;have d:∀k,k<=x.length->1<=fp (x.take k)/\fp (x.take k)<=68719476736:=(by rcases hl with hl|hl;have d:∀k,k<=x.length->1<=fp (x.take k)/\fp (x.take k)<=8^k:=(by intro k;induction k with|zero=>exact fun _=>⟨zaz 1,zaz 1⟩|succ k q=>intro a;obtain⟨s,m⟩:=q (by omega);have b:=c _ (BY (getD_some 0 (show k<x.length by omega)));rw[Jx (by omega)];have f:1*1<=fp (x.take k)*x.getD k 0:=zav s b.1 (by decide) (by omega);have e:fp (x.take k)*x.getD k 0<=8^k*8:=zav m b.2 (by omega) (by exact Int.pow_nonneg (by decide));exact⟨by omega,by rw[zaO];exact e⟩);have r:∀k,k<=12->(8:Int)^k<=68719476736:=(by decide);intro k a;have b:=d k a;have j:=r k (by omega);omega;intro k a;have i:∀(l:U),(∀v∈l,v∈x)->1<=aC l:=fun l p=>vt fun v n=>(c v (p v n)).1;have b:=i (x.take k) fun v h=>zaS h;have j:=i (x.drop k) fun v h=>zaT h;have h3:=aiG x k;have h4:aC (x.take k)*1<=aC (x.take k)*aC (x.drop k):=zbp _ j;have h5:=tC (D:=x.take k) fun v h=>(c v (zaS h)).1;omega);simp only[SM];rw[eR (fun k=>(fp (x.take k),x,aD (ab x),(k:Int))) x.length ?f ?e ?a3 dE];(case a3=>rfl);(case e=>dsimp only;rw[aW (iQ x)]);(case f=>intro k a;have g:=getD_some (0:Int) a;have b:=d (k+1) (by omega);rw[Jx a] at b;dsimp only;rw[aX (dg (by rw[nl];omega)),cE,g,aQ,rE,d6,<-Jx a];rfl);simp only[bK,zaA,zak];cases h
theorem aph (x:U×Int) (y:U) (h:GM x=some y):aad aN x=some y:=acf x y h
def Et:Rg×T3×Int->Option (Int×Int):=fun x=>if OP x then some (((x.2.2.toNat*ax x.1:Nat):Int),(((x.2.2.toNat+1)*ax x.1:Nat):Int)) else none
def Tu (NN:Nat):((Int×(Int×Int))×((U×(U×U))×(Int×U)))->(Option U):=
 (fun(((i0,i1,i2),(l3,l4,l5),i6,l7):((Int×(Int×Int))×((U×(U×U))×(Int×U))))=>
 (yE (i0,i1,i2)).ae (fun i8=>
 ah l5 (
 cj NN (fun(((i9,bS,dX,eC,fG),cO,dk,dm):((Int×(U×(Int×(Int×Int))))×(U×(U×U))))=>
 au (bO fG eC)
 ((bF bS fG).ae (fun gA=>
 (cN (bo .i64 (f6 .i64 i9 dX) fG) (ab cO)).ae (fun FF=>
 (bQ cO (av 0 FF)).ae (fun kV=>
 (aO 0 (ab cO) (ab (bB cO (av 0 FF) gA))).ae (fun _=>
 some (co ((i9,bS,dX,eC,bo .i64 fG 1),bB cO (av 0 FF) gA,dk,dm)))))))
 (((kq (ab cO) (ab l5)).ae (fun _=>
 some cO)).ae (fun gi=>
 some (AI gi))))
 ((i6,l7,i8,aD (ab l7),(0:Int)),l5,l3,l4))))
def Td (NN:Nat):((Int×(Int×Int))×((U×(U×U))×(Int×(List U))))->(Option ((U×(U×U))×Bool)):=
 (fun(((i0,i1,i2),(l3,l4,l5),i6,l7):((Int×(Int×Int))×((U×(U×U))×(Int×(List U)))))=>
 (Ck ((i0,i1,i2),l3,l4,l5)).ae (fun b8=>
 au (df b8)
 (some ((([]:U),([]:U),([]:U)),false))
 ((Ci ((l3,l4,l5),i6,l7)).ae (fun b9=>
 au (df b9)
 (some ((([]:U),([]:U),([]:U)),false))
 ((G4 (l3,l4,l5)).ae (fun(bS,cZ,cB)=>
 bK ((aO 0 0 (ab (([]:U)))).ae (fun _=>
 (aO 0 0 (ab (([]:U)))).ae (fun _=>
 (aO 0 0 (ab (([]:U)))).ae (fun _=>
 ah bS (
 ah cZ (
 ah cB (
 cj NN (fun((fG,(gf,iG,fH),(dA,d7,eY),(fw,ir),dP,iB,dq,fi,gj,gB):(Int×((Int×(Int×Int))×((U×(U×U))×((Int×(List U))×(U×(U×(U×(U×(U×U))))))))))=>
 (pC (d7,(4096:Int))).ae (fun lW=>
 au (bO fG lW)
 ((xg (d7,fG)).ae (fun gK=>
 (bc gK 0 (ab gK)).ae (fun lZ=>
 (Ey ((fw,ir),lZ)).ae (fun rq=>
 au (fy rq (0:Int))
 ((Ev (gf,iG,fH)).ae (fun hH=>
 (bc fi 0 (ab fi)).ae (fun iP=>
 (bc gj 0 (ab gj)).ae (fun lD=>
 ah gB (
 (bc hH 0 (ab hH)).ae (fun gp=>
 (xi ((gf,iG,fH),(iP,lD,gB),fG,gp)).ae (fun iL=>
 ah dP (
 ah iB (
 ah dq (
 ah fi (
 ah gj (
 (aO 0 (ab gB) (ab iL)).ae (fun _=>
 some (co (bo .i64 fG 1,(gf,iG,fH),(dA,d7,eY),(fw,ir),dP,iB,dq,fi,gj,iL)))))))))))))))
 (ah dP (
 ah iB (
 ah dq (
 ah fi (
 ah gj (
 ah gB (
 some (co (bo .i64 fG 1,(gf,iG,fH),(dA,d7,eY),(fw,ir),dP,iB,dq,fi,gj,gB)))))))))))))
 ((ah dP (
 ah iB (
 ah dq (
 ah fi (
 ah gj (
 ah gB (
 some (co (dP,iB,dq,fi,gj,gB))))))))).ae (fun jZ=>
 some (AI jZ)))))
 ((0:Int),(i0,i1,i2),(l3,l4,l5),(i6,l7),([]:U),([]:U),([]:U),bS,cZ,cB))))))))
 (fun(qB,o6,mO,o7,nf,kN)=>
 (ed o7 (ab o7)).ae (fun jh=>
 (ed nf (ab nf)).ae (fun o8=>
 (ed kN (ab kN)).ae (fun mP=>
 some ((jh,o8,mP),true)))))))))))
def SN (NN:Nat):((Int×(Int×Int))×((U×(U×U))×Int))->(Option (Int×Int)):=
 (fun(((i0,i1,i2),(l3,l4,l5),i6):((Int×(Int×Int))×((U×(U×U))×Int)))=>
 (tM (i0,i1,i2)).ae (fun i7=>
 (jB (f6 .i64 i6 i7) (f6 .i64 (bo .i64 i6 1) i7) (ab l5)).ae (fun(k8,k9)=>
 (cN (0:Int) (ab l5)).ae (fun k10=>
 some (aD (av 0 k8),aD (av (av 0 k8) k9))))))
theorem xY {α:Type} {a b:Prop} [Decidable a] [Decidable b] (h:a↔b) (x y:α):(if a then x else y)=if b then x else y:=by simp only[h]
theorem BL {a b:Nat} (h:a*b<=1099511627776:=by omega):f6 .i64 (a:Int) (b:Int)=((a*b:Nat):Int):=by have e:(a:Int)*(b:Int)=((a*b:Nat):Int):=(zat a b).symm;rw[rE,e]
theorem MY {l:U} {o:Nat} {x:U} (h:o+x.length<=l.length):(gC l o x).length=l.length:=by unfold gC;simp only[zae,IN,zbE];omega
theorem Yt {l:U} {o:Nat} {x:U} (h:o+x.length<=l.length) (q:Nat):(gC l o x)[q]? =if q<o then l[q]? else if q<o+x.length then x[q - o]? else l[q]? :=by unfold gC;have c:(l.take o).length=o:=(by rw[IN];omega);have d:(l.take o++x).length=o+x.length:=(by rw[zae,c]);by_cases a:q<o;rw[aj a,zaD (by omega),zaD (by omega),zao,aj a];rw[ak a];by_cases b:q<o+x.length;rw[aj b,zaD (by omega),zaj (by omega),c];rw[ak b,zaj (by omega),d,zaE];congr 1;omega
theorem azk {l:U} {o i:Nat} {x:U} (h:o+x.length<=l.length) (c:i<x.length):bB (gC l o (x.take i)) (o+i) (x.getD i 0)=gC l o (x.take (i+1)):=by have l1:(x.take i).length=i:=(by rw[IN];omega);have l2:(x.take (i+1)).length=i+1:=(by rw[IN];omega);have lp:=MY (l:=l) (o:=o) (x:=x.take i) (by omega);apply Pd;intro q;unfold bB;rw[Yt (by omega) q,l2];by_cases e:q=o+i;subst e;rw[zaI (by omega),ak (by omega),aj (by omega),Nat.add_sub_cancel_left,zao,aj (by omega)];exact(getD_some 0 c).symm;rw[zbh (fun h=>e h.symm),Yt (by omega) q,l1];by_cases a:q<o;rw[aj a,aj a];rw[ak a,ak a];by_cases b:q<o+i;rw[aj b,aj (by omega),zao,zao,aj (by omega),aj (by omega)];rw[ak b,ak (by omega)]
theorem aqe (x:Rg×T3×Int×U) (y:U) (h:xi x=some y):Tu aN x=some y:=by obtain⟨⟨k,p,m⟩,⟨L,D,A⟩,n,x⟩:=x;simp only[xi] at h;split at h;rename_i f;rw[<-h];obtain⟨hr,d,c,l⟩:=f;dsimp only at hr d c l;obtain⟨n,rfl⟩:=pW d;have g:=mq hr;simp only[AN] at c⊢;have hnw:n*ax (k,p,m)<=1048576:=(by omega);have hn:n<=1048576:=(by have:=zau n (show 0<ax (k,p,m) by omega);omega);simp only[Tu,yE,aQ,be,ah];rw[g.1];rw[eR (fun i=>(((n:Int),x,((ax (k,p,m):Nat):Int),aD (ab x),(i:Int)),gC A (n*ax (k,p,m)) (x.take i),L,D)) (r:=gC A (n*ax (k,p,m)) x) x.length ?a1 ?a2 ?a3 dE];(case a3=>rw[List.take_zero];simp[gC]);(case a2=>dsimp only;rw[aW (iQ x),zak];have:ab (gC A (n*ax (k,p,m)) x)=ab A:=MY c;rw[this,show kq (ab A) (ab A)=some () from aj rfl];simp only[aQ]);(case a1=>intro i e;have l1:(x.take i).length=i:=(by rw[IN];omega);have hl:ab (gC A (n*ax (k,p,m)) (x.take i))=A.length:=MY (by omega);dsimp only;rw[aX (dg (by rw[nl];omega)),cE,getD_some 0 e];simp only[aQ];rw[BL (a:=n) (b:=ax (k,p,m)) (by omega)];rw[d6,show((n*ax (k,p,m):Nat):Int)+(i:Int)=((n*ax (k,p,m)+i:Nat):Int) by push_cast;rfl];rw[hl,kI (by omega)];simp only[aQ,f9];obtain⟨v,j⟩:∃v,(gC A (n*ax (k,p,m)) (x.take i))[n*ax (k,p,m)+i]? =some v:=⟨_,wt (show n*ax (k,p,m)+i<(gC A (n*ax (k,p,m)) (x.take i)).length by have:(gC A (n*ax (k,p,m)) (x.take i)).length=A.length:=hl;omega)⟩;rw[show bQ (gC A (n*ax (k,p,m)) (x.take i)) (n*ax (k,p,m)+i)=some v from j];simp only[aQ];have l2:(x.take (i+1)).length=i+1:=(by rw[IN];omega);rw[azk c e,show aO 0 A.length (ab (gC A (n*ax (k,p,m)) (x.take (i+1))))=some () from qj (MY (by omega)).symm];simp only[aQ];rw[d6];rfl);cases h
theorem GA {r:Rg} (h:eG r=true):(eX r).length=ax r:=by have:=ET h;simp only[eV,AT,decide_eq_true_eq] at this;exact this.1
theorem K4 {r:Rg} {D A:U} {c:gW} {N:Nat} (hr:eG r=true) (b:A.length=N*ax r):∀k,k<=N->(mD r D c A k).length=A.length
 |0,_=>rfl
 |k+1,hk=>by have a:=K4 (D:=D) (c:=c) hr b k (by omega);have hm:(k+1)*ax r<=N*ax r:=zas _ hk;rw[zaq,zap] at hm;unfold mD;split;rw[MY (by rw[GA hr,a];omega)];exact a;exact a
theorem Uq {r:Rg} {D A:U} {c:gW} {N:Nat} (hr:eG r=true) (j:A.length=N*ax r) (q:Nat):∀k,k<=N->(mD r D c A k)[q]? =if q/ax r<k/\xr D c (q/ax r)=true then(eX r)[q%ax r]? else A[q]?
 |0,_=>by rw[ak (fun h=>zbL _ h.1)];rfl
 |k+1,hk=>by have i:=Uq (D:=D) (c:=c) hr j q k (by omega);have hw:=(mq hr).2.1;have hm:(k+1)*ax r<=N*ax r:=zas _ hk;rw[zaq,zap] at hm;have hdm:=zaY q (ax r);have PD:=zbg q (show 0<ax r by omega);unfold mD;by_cases g:xr D c k=true;rw[aj g,Yt (by rw[GA hr,K4 hr j k (by omega)];omega),GA hr,i];by_cases e:q/ax r=k;subst e;rw[ak (by rw[IS];omega),aj (by rw[IS];omega),aj ⟨by omega,g⟩];congr 1;rw[IS];omega;have m:¬(¬q<k*ax r/\q<k*ax r+ax r):=(by rintro⟨f,d⟩;apply e;apply Nat.div_eq_of_lt_le;rw[IS];rw[IS] at f;omega;rw[zaq,zap];omega);have l:(q/ax r<k/\xr D c (q/ax r)=true)↔(q/ax r<k+1/\xr D c (q/ax r)=true):=(by constructor;rintro⟨f,d⟩;exact⟨by omega,d⟩;rintro⟨f,d⟩;exact⟨by omega,d⟩);by_cases a:q<k*ax r;rw[aj a];exact xY l _ _;rw[ak a,ak (fun b=>m ⟨a,b⟩)];exact xY l _ _;rw[ak g,i];refine xY ?_ _ _;constructor;rintro⟨f,d⟩;exact⟨by omega,d⟩;rintro⟨f,d⟩;refine⟨?_,d⟩;by_cases e:q/ax r=k;rw[e] at d;exact absurd d g;omega
theorem abn {r:Rg} {D A:U} {c:gW} {N:Nat} (hr:eG r=true) (d:A.length=N*ax r):mD r D c A N=A↔∀n,n<N->xr D c n=true->fU A (n*ax r) (ax r)=eX r:=by have hw:=(mq hr).2.1;constructor;intro h n hn i;have hm:(n+1)*ax r<=N*ax r:=zas _ hn;rw[zaq,zap] at hm;apply Pd;intro j;unfold fU;rw[zao,zaE];by_cases a:j<ax r;rw[aj a];have hd:(n*ax r+j)/ax r=n:=(by rw[IS,Nat.mul_add_div (by omega),zbF a,zbA]);have f:(n*ax r+j)%ax r=j:=(by rw[IS,Nat.mul_add_mod,zam a]);have:=Uq (D:=D) (c:=c) hr d (n*ax r+j) N (IT _);rw[h,hd,f,aj ⟨hn,i⟩] at this;exact this;rw[ak a,GB (by rw[GA hr];omega)];intro h;apply Pd;intro q;rw[Uq hr d q N (IT _)];split;rename_i b;have:=h _ b.1 b.2;have g:=zbg q (show 0<ax r by omega);have e:=congrArg (fun l=>l[q%ax r]?) this;unfold fU at e;simp only[zao,zaE,aj g] at e;rw[<-e];congr 1;rw[IS];exact zaY q (ax r);rfl
theorem alJ {L D A:U} {c:gW} {r:Rg} (p:gM r (L,D,A)=true) (b:mY ((L,D,A),c)=true) (n:Nat):Gp (c,aM D n):=by
 obtain⟨_,⟨hl,hd⟩,_,_,_,g,_,_,_⟩:=mg p;obtain⟨m,R⟩:=c;simp only[mY,AT,decide_eq_true_eq] at b;obtain⟨_,hm,hR,k⟩:=b;have l:(aM D n).length=D.length:=fT _ _;refine⟨hm,by dsimp only;omega,fun i a=>?_⟩;dsimp only at a⊢;rw[l] at a;obtain⟨d,d1,o,j,d4,d5⟩:=HW g a;obtain⟨p1,h⟩:=k i (by omega);have f:(aM D n).getD i 0=((n/dV D (i+1)%d:Nat):Int):=by rw[zw a];unfold ef;rw[j]
 have cF:=zbg (n/dV D (i+1)) (show 0<d by omega);rw[o] at p1;have e:n/dV D (i+1)%d<(R.getD i []).length:=by omega
 refine⟨by omega,by rw[f,AN];exact⟨by omega,e⟩,?_⟩;unfold kf;rw[f,AN];have q:=ai6.1 h;have:=q _ (BY (getD_some 0 e));exact⟨this.1,by have:=this.2;omega⟩
theorem Zy {L D A:U} {c:gW} {r:Rg} (a:gM r (L,D,A)=true) (d:mY ((L,D,A),c)=true) (n:Nat):Ey (c,aM D n)=some (sm D.length (kf c.2 (aM D n))%c.1):=by have h:=alJ a d n;have b:(aM D n).length=D.length:=fT _ _;rw[show Ey (c,aM D n)=_ from aj h];dsimp only;rw[b]
theorem apS (x:Rg×T3×gW) (y:T3×Bool) (h:GW x=some y):Td aN x=some y:=by obtain⟨⟨k,p,m⟩,⟨L,D,A⟩,a,R⟩:=x;simp only[GW] at h;split at h;rename_i o;rw[<-h];have r:=o.2;obtain⟨⟨l1,l2,f⟩,_⟩:=o;dsimp only at l1 l2 f;unfold HN;simp only[Td,ah];rw[show Ck ((k,p,m),L,D,A)=some (gM (k,p,m) (L,D,A)) from aj ⟨l1,l2,f⟩];simp only[aQ];(cases ht:gM (k,p,m) (L,D,A) with|false=>rw[aX (b:=df false) rfl,ak (by simp)]|true=>rw[aW (b:=df true) rfl,show Ci ((L,D,A),a,R)=some (mY ((L,D,A),a,R)) from aj r];simp only[aQ];cases kK:mY ((L,D,A),a,R) with|false=>rw[aX (b:=df false) rfl,ak (by simp)]|true=>rw[aW (b:=df true) rfl,aj (by simp)];obtain⟨hr,⟨hl,hd⟩,pN,⟨mM,ki⟩,j,q,l,Wj,_⟩:=mg ht;have hw:=mq hr;rw[show G4 (L,D,A)=some (L,D,A) from aj ⟨l1,l2,f⟩];simp only[aQ,be];rw[show aO 0 0 (ab ([]:U))=some () from rfl];simp only[aQ];rw[eR (fun n=>((n:Int),(k,p,m),(L,D,A),(a,R),([]:U),([]:U),([]:U),L,D,mD (k,p,m) D (a,R) A n)) (aC D) ?a1 ?a2 ?a3 dE];(case a3=>rfl);(case a2=>dsimp only;rw[show pC (D,4096)=some ((aC D:Nat):Int) by rw[<-l];exact aj ⟨by decide,l2,zaf.2 fun v g=>by have:=hd v g;exact decide_eq_true (by omega)⟩];simp only[aQ];rw[aW dQ];try simp only[be,aQ]);(case a1=>intro n hn;have c:(mD (k,p,m) D (a,R) A n).length=A.length:=K4 hr j n (by omega);have hm:(n+1)*ax (k,p,m)<=aC D*ax (k,p,m):=zas _ hn;rw[zaq,zap] at hm;dsimp only;rw[show pC (D,4096)=some ((aC D:Nat):Int) by rw[<-l];exact aj ⟨by decide,l2,zaf.2 fun v g=>by have:=hd v g;exact decide_eq_true (by omega)⟩];simp only[aQ];rw[aX dg,show xg (D,(n:Int))=some (aM D n) from aj ⟨q,by dsimp only;omega,by dsimp only;omega⟩];simp only[aQ,eH];rw[Zy ht kK n];simp only[aQ];rw[d6];by_cases d:xr D (a,R) n=true;have i:=of_decide_eq_true d;rw[aX (show fy _ 0=true from bne_iff_ne.2 i),show Ev (k,p,m)=some (eX (k,p,m)) from aj hr];simp only[aQ,eH,be];rw[show xi ((k,p,m),(L,D,mD (k,p,m) D (a,R) A n),(n:Int),eX (k,p,m))=some (gC (mD (k,p,m) D (a,R) A n) (n*ax (k,p,m)) (eX (k,p,m))) from by simp only[xi];rw[aj ⟨hr,by dsimp only;omega,by dsimp only;rw[GA hr,c,AN];omega,by dsimp only;omega⟩];rfl];simp only[aQ];have e:mD (k,p,m) D (a,R) A (n+1)=gC (mD (k,p,m) D (a,R) A n) (n*ax (k,p,m)) (eX (k,p,m)):=aj d;rw[show aO 0 (ab (mD (k,p,m) D (a,R) A n)) (ab (gC (mD (k,p,m) D (a,R) A n) (n*ax (k,p,m)) (eX (k,p,m))))=some () from qj (by rw[<-e];exact c.trans (K4 hr j (n+1) (by omega)).symm)];simp only[aQ];rw[<-e];rfl;have i:sm D.length (kf R (aM D n))%a=0:=Classical.byContradiction fun h=>d (decide_eq_true h);rw[i,aW (by rfl)];have e:mD (k,p,m) D (a,R) A (n+1)=mD (k,p,m) D (a,R) A n:=ak d;rw[e];rfl);simp only[bK,zaA,iJ,aQ]);cases h
theorem apr (x:Rg×T3×Int) (y:Int×Int) (h:Et x=some y):SN aN x=some y:=by obtain⟨⟨k,p,m⟩,⟨L,D,A⟩,n⟩:=x;simp only[Et] at h;split at h;rename_i g;rw[<-h];obtain⟨hr,d,c,e⟩:=g;dsimp only at hr d c e;obtain⟨n,rfl⟩:=pW d;have i:=mq hr;simp only[AN] at c⊢;have f:(n+1)*ax (k,p,m)=n*ax (k,p,m)+ax (k,p,m):=(by rw[zaq,zap]);have hn:n+1<=1048576:=(by have:=zau (n+1) (show 0<ax (k,p,m) by omega);omega);simp only[SN,tM,aQ];rw[i.1,d6,show(n:Int)+1=((n+1:Nat):Int) by push_cast;rfl];rw[BL (a:=n) (b:=ax (k,p,m)) (by omega)];rw[BL (a:=n+1) (b:=ax (k,p,m)) (by omega)];rw[show jB ((n*ax (k,p,m):Nat):Int) (((n+1)*ax (k,p,m):Nat):Int) (ab A)=some (n*ax (k,p,m),ax (k,p,m)) by unfold jB ab;rw[aj ⟨by omega,by omega,by omega⟩];congr 2;omega];simp only[aQ];rw[show cN (0:Int) (ab A)=some 0 by unfold cN ab;rw[aj ⟨by omega,by omega⟩];rfl];simp only[aQ,aD,av,zan];rw[f];cases h
theorem Ib {α:Type}:aO 0 0 (ab ([]:List α))=some ():=rfl
theorem oP {α:Type} (l:List α) (x:α):aO 0 (av (ab l) (ab [x])) (ab (dn l [x]))=some ():=by rw[show ab (dn l [x])=av (ab l) (ab [x]) by simp[av,ab,dn]];exact be _
def afd (x:Int×n4×n4):Prop:=tz x.1/\FQ x.2.1/\FQ x.2.2/\(x.2.1.1*x.2.2.1<=4096/\x.2.1.2.1*x.2.2.2.1<=4096)/\(x.2.1.1*x.2.2.1)*(x.2.1.2.1*x.2.2.2.1)<=1048576/\uP x.1 x.2.1.2.2/\uP x.1 x.2.2.2.2
instance (x:Int×n4×n4):Decidable (afd x):=by unfold afd;infer_instance
section
variable {p:Int} {r c s d:Nat} {A B:fz}
end
section
variable {p:Int} {n m:Nat} {a b a2 b2:U} {ms XO:List n4}
end

abbrev Wd:=U
structure BI (p:Int) (n t:Nat) (S:List Wd×U) (q:List Wd):Prop where
 dl:S.2.length=S.1.length*n
 dp:uP p S.2
 kn:S.1.length<=n
 qo:∀w∈q,Sh t w/\w.length<=S.1.length
 wo:∀w∈S.1,Sh t w/\w.length<=n
section
variable {p:Int} {n:Nat} {s b:U} {ms:List n4}
theorem BI.no {S:List Wd×U} {w:Wd} {q:List Wd} (h:BI p n ms.length S (w::q)):BI p n ms.length S q:=⟨h.dl,h.dp,h.kn,fun v a=>h.qo v (by simp[a]),h.wo⟩
end
theorem alQ {α:Type} {l:List α} {n:Nat} (h:n=l.length):ed l n=some l:=by subst h;unfold ed;rw[aj (IT _),zak]
section
variable {p:Int} {n:Nat} {s b:U} {ms:List n4}
end
section
variable {p:Int} {n:Nat} {s b:U} {ms:List n4}
end
def alh (x:Int×n4×n4):Prop:=tz x.1/\(0<=x.2.1.1/\x.2.1.1<=x.2.1.2.1/\x.2.1.2.1<=12)/\(0<=x.2.2.1/\x.2.2.1<=12)/\x.2.2.2.1=x.2.1.2.1/\(x.2.1.2.2.length=x.2.1.1.toNat*x.2.1.2.1.toNat/\x.2.2.2.2.length=x.2.2.1.toNat*x.2.1.2.1.toNat)/\uP x.1 x.2.1.2.2/\uP x.1 x.2.2.2.2
instance (x:Int×n4×n4):Decidable (alh x):=by unfold alh;infer_instance


def TS (p:Int) (M:fz) (i j:Nat):Prop:=(M i j+M j i)%p=0/\(i=j->M i j=0)
instance (p:Int) (M:fz) (i j:Nat):Decidable (TS p M i j):=by unfold TS;infer_instance
def aaI (p:Int) (M:fz) (i:Nat):Prop:=∀j,j<i+1->TS p M i j
instance (p:Int) (M:fz) (i:Nat):Decidable (aaI p M i):=by unfold aaI;infer_instance
def rh (p a b:Int):Prop:=∃q,a=b+p*q
theorem rh.refl (p a:Int):rh p a a:=⟨0,by simp⟩
theorem rh.trans {p a b c:Int} (h:rh p a b) (h':rh p b c):rh p a c:=by obtain⟨q,rfl⟩:=h;obtain⟨d,rfl⟩:=h';exact⟨d+q,by rw[Int.mul_add];omega⟩
theorem rh.symm {p a b:Int} (h:rh p a b):rh p b a:=by obtain⟨q,rfl⟩:=h;exact⟨-q,by rw[zbP];omega⟩
theorem rh.add {p a b c d:Int} (h:rh p a b) (h':rh p c d):rh p (a+c) (b+d):=by obtain⟨q,rfl⟩:=h;obtain⟨e,rfl⟩:=h';exact⟨q+e,by grind⟩
theorem rh.mul {p a b c d:Int} (h:rh p a b) (h':rh p c d):rh p (a*c) (b*d):=by obtain⟨q,rfl⟩:=h;obtain⟨e,rfl⟩:=h';exact⟨q*d+b*e+p*q*e,by grind⟩
section
variable {p inv:Int} {n k:Nat} {A:fz}
end
section
variable {p:Int} {n:Nat} {M:fz}
end
section
variable {p:Int} {n:Nat} {M:fz}
end

section
variable {p:Int} {n m:Nat} {a b a2 b2:U} {ms XO:List n4}
end
def ak8:Nat->U->U
 |0,l=>l
 |k+1,l=>if l.getD (k+1) 0<l.getD k 0 then ak8 k (bB (bB l (k+1) (l.getD k 0)) k (l.getD (k+1) 0)) else l
def alk (l:U):Nat->U
 |0=>l
 |i+1=>ak8 i (alk l i)
def sN (f:Nat->Nat):Nat->Nat
 |0=>0
 |q+1=>sN f q+f q
def DU (L D S:U):U:=dd S.length fun i=>D.getD (bh L (S.getD i 0)) 0
def gP (L D S:U) (n:Nat) (v:Int):Nat:=(ef (DU L D S) n (bh S v)).toNat*dV D (bh L v+1)
def X0 (L D S:U) (n:Nat):Nat:=sN (fun i=>gP L D S n (S.getD i 0)) S.length
def kc (r:Rg) (A:U) (off:Nat->Nat):Nat->U
 |0=>[]
 |n+1=>kc r A off n++fU A (off n*ax r) (ax r)
def aiw (x:Rg×T3×U):Prop:=gM x.1 x.2.1=true/\x.2.2=alk x.2.1.1 x.2.1.1.length
instance (x:Rg×T3×U):Decidable (aiw x):=by unfold aiw;infer_instance
def rK:T3×Int->Option Int:=fun x=>if x.1.1.length<=1048576 then some (jU x.1.1 x.2) else none
def z6 (l:U) (b:Int):Prop:=l.length<=12/\∀x∈l,0<=x/\x<=b
instance (l:U) (b:Int):Decidable (z6 l b):=by unfold z6;infer_instance
def Ah:U×U->Option Int:=fun x=>if z6 x.1 8/\z6 x.2 8/\x.1.length=x.2.length then some ((jQ x.1 x.2 x.1.length:Nat):Int) else none
def JT (l:U) (b:Int):Prop:=l.length<=24/\∀x∈l,0<=x/\x<=b
instance (l:U) (b:Int):Decidable (JT l b):=by unfold JT;infer_instance
theorem z6.m {l:U} {b:Int} (h:z6 l b):JT l b:=⟨za3 h.1 (by decide),h.2⟩
def Ae:U×U->Option Int:=fun x=>if JT x.1 1048576/\JT x.2 8/\x.1.length=x.2.length then some ((sN (fun i=>(x.2.getD i 0).toNat*(x.1.getD i 0).toNat) x.1.length:Nat):Int) else none
def fI (L D S:U):U:=dd S.length fun i=>if bh L (S.getD i 0)<L.length then((dV D (bh L (S.getD i 0)+1):Nat):Int) else 0
def yx:T3×U->Option U:=fun x=>if ly x.1.1 x.1.2.1=true/\x.2.length<=1000/\aC x.1.2.1<=4096 then some (fI x.1.1 x.1.2.1 x.2) else none
def pB:Rg×T3×Int->Option U:=fun x=>if OP x then some (fU x.2.1.2.2 (x.2.2.toNat*ax x.1) (ax x.1)) else none
def vK:Rg×T3×Int->Option U:=pB
def Ts (NN:Nat):(U×U)->(Option Int):=
 (fun((l0,l1):(U×U))=>
 bK (cj NN (fun((l2,i3,l4,i5,i6):(U×(Int×(U×(Int×Int)))))=>
 au (bO i6 i5)
 ((bF l4 i6).ae (fun i7=>
 (bF l2 i6).ae (fun i8=>
 some (co (l2,bo .i64 (f6 .i64 i3 i7) i8,l4,i5,bo .i64 i6 1)))))
 (some (AI (co i3))))
 (l1,(0:Int),l0,aD (ab l0),(0:Int)))
 (fun i9=>
 some i9))
def Tp (NN:Nat):((Int×(Int×Int))×((U×(U×U))×Int))->(Option U):=
 (fun(((i0,i1,i2),(l3,l4,l5),i6):((Int×(Int×Int))×((U×(U×U))×Int)))=>
 (yE (i0,i1,i2)).ae (fun i7=>
 (jB (f6 .i64 i6 i7) (bo .i64 (f6 .i64 i6 i7) i7) (ab l5)).ae (fun(k8,k9)=>
 (aO 0 0 (ab (([]:U)))).ae (fun _=>
 (iN (av (ab (([]:U))) (ab (fU l5 k8 k9))) 8).ae (fun _=>
 (ed (dn (([]:U)) (fU l5 k8 k9)) (av (ab (([]:U))) (ab (fU l5 k8 k9)))).ae (fun bS=>
 some bS))))))
def Sw (NN:Nat):((U×(U×U))×Int)->(Option Int):=
 (fun(((l0,l1,l2),i3):((U×(U×U))×Int))=>
 bK (cj NN (fun((i4,l5,i6,i7):(Int×(U×(Int×Int))))=>
 au (bO i7 i6)
 ((bF l5 i7).ae (fun i8=>
 au (cu i8 i4)
 (some (AI (AI i7)))
 (some (co (i4,l5,i6,bo .i64 i7 1)))))
 (some (AI (co ()))))
 (i3,l0,aD (ab l0),(0:Int)))
 (fun _=>
 some ((-1:Int))))
def SD (NN:Nat):(U×U)->(Option Int):=
 (fun((l0,l1):(U×U))=>
 bK (cj NN (fun((l2,l3,i4,i5,i6):(U×(U×(Int×(Int×Int)))))=>
 au (bO i6 i5)
 ((bF l2 i6).ae (fun i7=>
 (bF l3 i6).ae (fun i8=>
 some (co (l2,l3,bo .i64 i4 (f6 .i64 i7 i8),i5,bo .i64 i6 1)))))
 (some (AI (co i4))))
 (l0,l1,(0:Int),aD (ab l0),(0:Int)))
 (fun i9=>
 some i9))
def SO (NN:Nat):((Int×(Int×Int))×((U×(U×U))×Int))->(Option U):=
 (fun(((i0,i1,i2),(l3,l4,l5),i6):((Int×(Int×Int))×((U×(U×U))×Int)))=>
 (tM (i0,i1,i2)).ae (fun i7=>
 (jB (f6 .i64 i6 i7) (f6 .i64 (bo .i64 i6 1) i7) (ab l5)).ae (fun(k8,k9)=>
 some (fU l5 k8 k9))))
theorem ajc {f:Nat->Nat} {b:Nat}:∀q,(∀i,i<q->f i<=b)->sN f q<=q*b
 |0,_=>zbm _
 |q+1,h=>by have h1:=ajc (f:=f) (b:=b) q fun i hi=>h i (by omega);have h2:=h q (by omega);simp only[sN];rw[zaq,zap];omega
theorem Q2 {f g:Nat->Nat}:∀q,(∀i,i<q->f i=g i)->sN f q=sN g q
 |0,_=>rfl
 |q+1,h=>by simp only[sN];rw[Q2 q fun i hi=>h i (by omega),h q (by omega)]
theorem ajd (g:Int->Nat) (l:U):∀q,q<=l.length->sN (fun i=>g (l.getD i 0)) q=((l.take q).map g).sum
 |0,_=>by simp[sN]
 |q+1,h=>by simp only[sN];rw[ajd g l q (by omega),List.take_succ_eq_append_getElem (by omega),zbb,List.sum_append_nat,By,wt (by omega)];simp
theorem Q3 (g:Int->Nat) (l:U):sN (fun i=>g (l.getD i 0)) l.length=(l.map g).sum:=by rw[ajd g l _ (IT _),zak]
theorem azZ {S L:U} (h:S.Perm L) (g:Int->Nat):sN (fun i=>g (S.getD i 0)) S.length=sN (fun i=>g (L.getD i 0)) L.length:=by rw[Q3,Q3];exact(h.map g).sum_nat
theorem ff {l:U} {v:Int} (h:v∈l):bh l v<l.length:=by refine Nat.lt_of_le_of_ne (MS l v) fun e=>?_;obtain⟨i,a⟩:=List.getElem?_of_mem h;have hl:=(OF.1 a).1;exact Jv (by omega) a
theorem jA {l:U} {v:Int} (h:v∈l):l.getD (bh l v) 0=v:=by rw[By,Ju (ff h)];rfl
theorem eF {l:U} {i:Nat} (h:i<l.length):l.getD i 0∈l:=by rw[By,wt h];exact zbH h
theorem j4 {l:U} (hn:l.Nodup) {i:Nat} (h:i<l.length):bh l (l.getD i 0)=i:=by have hm:=eF h;have b:=ff hm;have a:=Ju b;rw[wt b] at a;have e:l[bh l (l.getD i 0)]=l[i]:=(by injection a with a;rw[a,By,wt h];rfl);exact(List.getElem_inj hn).1 e
theorem tQ {L D:U} (h:ly L D=true):L.Nodup:=by obtain⟨h1,h2,b⟩:=gH h;rw[List.nodup_iff_pairwise_ne,List.pairwise_iff_getElem];intro i j hi a lR e;have:=(b j a).2.2;apply this;rw[By,wt a];show L[j]∈L.take j;rw[<-e,List.mem_take_iff_getElem];exact⟨i,by omega,rfl⟩
structure xn (L D S:U):Prop where
 p:S.Perm L
 nL:L.Nodup
 nS:S.Nodup
 len:L.length=D.length
 cB:L.length<=12
 re:∀x∈D,1<=x/\x<=8
section
variable {L D S:U} (I:xn L D S)
include I
theorem xn.inv {q k:Nat} (a:q<S.length) (b:k<L.length):bh L (S.getD q 0)=k↔bh S (L.getD k 0)=q:=by have m1:S.getD q 0∈L:=I.p.mem_iff.1 (eF a);have m2:L.getD k 0∈S:=I.p.mem_iff.2 (eF b);constructor;intro e;have:=jA m1;rw[e] at this;rw[this,j4 I.nS a];intro e;have:=jA m2;rw[e] at this;rw[this,j4 I.nL b]
theorem xn.amU {q:Nat} (a:q<S.length):bh L (S.getD q 0)<L.length:=ff (I.p.mem_iff.1 (eF a))
theorem xn.asE {k:Nat} (a:k<L.length):bh S (L.getD k 0)<S.length:=ff (I.p.mem_iff.2 (eF a))
theorem xn.jG:jG D:=⟨by have:=I.len;have:=I.cB;omega,fun x hx=>by have:=I.re x hx;omega⟩
omit I in
omit I in
theorem azG (h:Int->Int) (l:U):dd l.length (fun i=>h (l.getD i 0))=l.map h:=by apply Pd;intro i;by_cases a:i<l.length;rw[rI _ a,zaK,wt a,By,wt a];rfl;rw[GB (by rw[fT];omega),GB (by simp;omega)]
def FW (L D S:U) (n:Nat):U:=dd D.length fun k=>ef (DU L D S) n (bh S (L.getD k 0))
theorem xn.pd {i:Nat} (a:i<S.length):(DU L D S).getD i 0=D.getD (bh L (S.getD i 0)) 0:=by unfold DU;rw[By,rI _ a];rfl
theorem xn.anY (n:Nat) {i:Nat} (a:i<S.length):0<=ef (DU L D S) n i/\ef (DU L D S) n i<D.getD (bh L (S.getD i 0)) 0:=by have hd:=I.re _ (eF (l:=D) (i:=bh L (S.getD i 0)) (by have:=I.amU a;have:=I.len;omega));unfold ef;rw[I.pd a];have:=zbg (n/dV (DU L D S) (i+1)) (show 0<(D.getD (bh L (S.getD i 0)) 0).toNat by omega);omega
omit I in
theorem QC {D ix:U} (h:∀k,k<D.length->(ix.getD k 0).toNat<(D.getD k 0).toNat):∀j,j<=D.length->(jQ D ix j+1)*dV D j<=aC D
 |0,_=>by simp[jQ,dV]
 |j+1,hj=>by have a:=QC h j (by omega);have hk:=h j (by omega);rw[B2 (by omega),<-zbu] at a;refine za3 (zas _ ?_) a;simp only[jQ];rw[zaq,zap];omega
omit I in
theorem XX {D ix:U}:∀j,j<=D.length->jQ D ix j*dV D j=sN (fun k=>(ix.getD k 0).toNat*dV D (k+1)) j
 |0,_=>by simp[jQ,sN]
 |j+1,hj=>by simp only[jQ,sN];rw[<-XX j (by omega),B2 (i:=j) (by omega),zaq,zbu]
theorem xn.aia (n:Nat) {k:Nat} (a:k<D.length):(FW L D S n).getD k 0=ef (DU L D S) n (bh S (L.getD k 0)):=by unfold FW;rw[By,rI _ a];rfl
theorem xn.axE (n:Nat) {k:Nat} (d:k<D.length):0<=(FW L D S n).getD k 0/\(FW L D S n).getD k 0<D.getD k 0:=by
 rw[I.aia n d];have b:k<L.length:=by have:=I.len;omega
 have c:=I.asE b;have a:=I.anY n c;rw[(I.inv c b).2 rfl] at a;exact a
theorem xn.off (n:Nat):jQ D (FW L D S n) D.length=X0 L D S n:=by have a:=XX (D:=D) (ix:=FW L D S n) D.length (IT _);rw[uF,zbo] at a;rw[a];unfold X0;rw[azZ I.p (gP L D S n),I.len];refine Q2 _ fun k b=>?_;rw[I.aia n b];unfold gP;rw[j4 I.nL (by have:=I.len;omega)]
theorem xn.X3 (n:Nat):X0 L D S n<aC D:=by have:=QC (D:=D) (ix:=FW L D S n) (fun k a=>by have:=I.axE n a;omega) D.length (IT _);rw[uF,zbo,I.off n] at this;omega
end
theorem Ea {l:U} {b:Int} (h:JT l b) {i:Nat} (c:i<l.length):∃a:Nat,l[i]? =some (a:Int)/\(l.getD i 0).toNat=a/\(a:Int)<=b:=by have:=h.2 _ (zbH c);refine⟨l[i].toNat,?_,?_,by omega⟩;rw[wt c];congr 1;omega;rw[By,wt c];rfl
theorem ah7 {D ix:U} (d:z6 D 8) (c:z6 ix 8) (e:D.length=ix.length):∀j,j<=D.length->jQ D ix j<=17^j
 |0,_=>by simp[jQ]
 |j+1,hj=>by have k:=ah7 d c e j (by omega);obtain⟨a,_,f,a3⟩:=Ea d.m (i:=j) (by omega);obtain⟨b,_,g,b3⟩:=Ea c.m (i:=j) (by omega);have h:17^0<=17^j:=zaU (by omega) (zbm j);rw[zbY] at h;simp only[jQ];rw[f,g,za1];have:=zaC k (show a<=8 by omega);omega
theorem aqc (x:U×U) (y:Int) (h:Ah x=some y):Ts aN x=some y:=by obtain⟨D,ix⟩:=x;simp only[Ah] at h;split at h;rename_i o;rw[<-h];obtain⟨c,l,q⟩:=o;simp only[Ts];have s:∀j,j<=D.length->jQ D ix j<=582622237229761:=fun j g=>za3 (ah7 c l q j g) (za3 (zaU (by omega) (show j<=12 by have:=c.1;omega)) (by decide));rw[eR (fun j=>(ix,((jQ D ix j:Nat):Int),D,(D.length:Int),(j:Int))) D.length ?d ?f ?k (dE (by have:=c.1;omega))];(case k=>rfl);(case f=>dsimp only;rw[aW dQ]);(case d=>intro j g;obtain⟨a,d,f,k⟩:=Ea c.m (i:=j) (by omega);obtain⟨b,r,p,b3⟩:=Ea l.m (i:=j) (by omega);have n:=s j (by omega);have hl:=c.1;have e:jQ D ix (j+1)=jQ D ix j*a+b:=(by simp only[jQ];rw[f,p]);have hm:=zaC n (show a<=8 by omega);dsimp only;rw[aX dg,cE,cE,d,r];simp only[aQ];rw[rE (by rw[<-zat];omega) (by rw[<-zat];omega),<-zat,d6,d6,e];rfl);simp only[bK,zaA];cases h
theorem apb (x:U×U) (y:Int) (h:Ae x=some y):SD aN x=some y:=by obtain⟨s,ix⟩:=x;simp only[Ae] at h;split at h;rename_i m;rw[<-h];obtain⟨d,l,o⟩:=m;(try dsimp only at d l o);simp only[SD];have r:∀j,j<=s.length->sN (fun i=>(ix.getD i 0).toNat*(s.getD i 0).toNat) j<=j*8388608:=fun j n=>ajc j fun i hi=>(by obtain⟨a,_,c,g⟩:=Ea d (i:=i) (by omega);obtain⟨b,_,k,p⟩:=Ea l (i:=i) (by omega);rw[c,k];exact zaC (show b<=8 by omega) (show a<=1048576 by omega));have hl:=d.1;rw[eR (fun j=>(s,ix,((sN (fun i=>(ix.getD i 0).toNat*(s.getD i 0).toNat) j:Nat):Int),(s.length:Int),(j:Int))) s.length ?f ?c ?g dE];(case g=>rfl);(case c=>dsimp only;rw[aW dQ]);(case f=>intro j n;obtain⟨a,f,c,g⟩:=Ea d (i:=j) (by omega);obtain⟨b,q,k,p⟩:=Ea l (i:=j) (by omega);have Pm:=r j (by omega);have e:sN (fun i=>(ix.getD i 0).toNat*(s.getD i 0).toNat) (j+1)=sN (fun i=>(ix.getD i 0).toNat*(s.getD i 0).toNat) j+b*a:=(by simp only[sN];rw[c,k]);have hm:=zaC (show b<=8 by omega) (show a<=1048576 by omega);dsimp only;rw[aX dg,cE,cE,f,q];simp only[aQ];rw[e,IS b a];rw[IS b a] at hm;rw[rE (by rw[<-zat];omega) (by rw[<-zat];omega),<-zat,d6,d6];rfl);simp only[bK,zaA];cases h
theorem ao6 (x:T3×Int) (y:Int) (h:rK x=some y):Sw aN x=some y:=by obtain⟨⟨L,D,A⟩,v⟩:=x;simp only[rK] at h;split at h;rename_i c;rw[<-h];(try dsimp only at c);simp only[Sw];unfold jU;by_cases a:bh L v<L.length;rw[aj a];rw[eR (r:=AI ((bh L v:Nat):Int)) (fun j=>(v,L,(L.length:Int),(j:Int))) (bh L v) ?a1 ?a2 ?a3 dE];(case a3=>rfl);(case a2=>dsimp only;rw[aX dg,cE,Ju a];simp only[aQ];rw[aX (by simp[cu])]);(case a1=>intro j b;dsimp only;rw[aX dg,cE,wt (by omega)];simp only[aQ];rw[aW (by have:=Jv b;rw[wt (by omega)] at this;simp only[cu,beq_eq_false_iff_ne,ne_eq];exact fun e=>this (congrArg some e)),d6];rfl);simp only[bK,zaA];rw[ak a];have lT:bh L v=L.length:=(by have:=MS L v;omega);rw[eR (r:=co ()) (fun j=>(v,L,(L.length:Int),(j:Int))) L.length ?a1 ?a2 ?a3 dE];(case a3=>rfl);(case a2=>dsimp only;rw[aW dQ]);(case a1=>intro j b;dsimp only;rw[aX dg,cE,wt (by omega)];simp only[aQ];rw[aW (by have:=Jv (l:=L) (v:=v) (j:=j) (by omega);rw[wt (by omega)] at this;simp only[cu,beq_eq_false_iff_ne,ne_eq];exact fun e=>this (congrArg some e)),d6];rfl);simp only[bK,zaA];cases h
theorem aps (x:Rg×T3×Int) (y:U) (h:vK x=some y):SO aN x=some y:=by obtain⟨⟨k,p,m⟩,⟨L,D,A⟩,n⟩:=x;simp only[vK,pB] at h;split at h;rename_i f;rw[<-h];obtain⟨hr,d,c,e⟩:=f;dsimp only at hr d c e;obtain⟨n,rfl⟩:=pW d;have g:=mq hr;simp only[AN] at c⊢;have qn:(n+1)*ax (k,p,m)=n*ax (k,p,m)+ax (k,p,m):=(by rw[zaq,zap]);have hn:n+1<=1048576:=(by have:=zau (n+1) (show 0<ax (k,p,m) by omega);omega);simp only[SO,tM,aQ];rw[g.1,d6,show(n:Int)+1=((n+1:Nat):Int) by push_cast;rfl];rw[BL (a:=n) (b:=ax (k,p,m)) (by omega)];rw[BL (a:=n+1) (b:=ax (k,p,m)) (by omega)];rw[show jB ((n*ax (k,p,m):Nat):Int) (((n+1)*ax (k,p,m):Nat):Int) (ab A)=some (n*ax (k,p,m),ax (k,p,m)) by unfold jB ab;rw[aj ⟨by omega,by omega,by omega⟩];congr 2;omega];simp only[aQ];cases h
theorem aqa (x:Rg×T3×Int) (y:U) (h:pB x=some y):Tp aN x=some y:=by obtain⟨⟨k,p,m⟩,⟨L,D,A⟩,n⟩:=x;simp only[pB] at h;split at h;rename_i f;rw[<-h];obtain⟨hr,d,c,i⟩:=f;dsimp only at hr d c i;obtain⟨n,rfl⟩:=pW d;have g:=mq hr;simp only[AN] at c⊢;have e:(n+1)*ax (k,p,m)=n*ax (k,p,m)+ax (k,p,m):=(by rw[zaq,zap]);have hn:n+1<=1048576:=(by have:=zau (n+1) (show 0<ax (k,p,m) by omega);omega);simp only[Tp,yE,aQ];rw[g.1,BL (a:=n) (b:=ax (k,p,m)) (by omega),d6,show((n*ax (k,p,m):Nat):Int)+((ax (k,p,m):Nat):Int)=(((n+1)*ax (k,p,m):Nat):Int) by rw[e];push_cast;rfl];rw[show jB ((n*ax (k,p,m):Nat):Int) (((n+1)*ax (k,p,m):Nat):Int) (ab A)=some (n*ax (k,p,m),ax (k,p,m)) by unfold jB ab;rw[aj ⟨by omega,by omega,by omega⟩];congr 2;omega];simp only[aQ];rw[show aO 0 0 (ab ([]:U))=some () from rfl];simp only[aQ];have hlen:(fU A (n*ax (k,p,m)) (ax (k,p,m))).length<=ax (k,p,m):=(by unfold fU;rw[IN];omega);rw[kv (by simp only[av,ab,zay,eD];omega)];simp only[aQ];rw[alQ (by simp[av,ab,dn])];rfl;cases h
end Go.Am
