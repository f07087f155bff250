/- AmY, AmZ, S7, MB, B0, B1, B2, MT, Mx, M1, M4, M5, M11, M22, M6, M7, M8, M9, M23, M24, M25, M31, Fm, M14, M15, M16, M17, M19, M33, M32, M34, M62, M64, M36, M18, M38, M48, M49, M50, M51, M52, M12, M20, M21, M53, M56, M65: parts of the proof. No condition. -/
import Derived.Test.YtfkfmbhknekkdaaS6
import Derived.Laws.BitsLemmas
import Derived.Lib.BitFns
set_option linter.unusedVariables false
set_option linter.unusedSimpArgs false
set_option synthInstance.maxSize 1000
set_option synthInstance.maxHeartbeats 400000
open List renaming getElem?_eq_getElem->zaa,getElem?_eq_none->zad,getD_eq_getElem?_getD->zaf,getElem?_eq_some_iff->zag,map_cons->zah,getElem?_map->zaj,ext_getElem?->zal,length_map->zao,mem_of_getElem?->zap,length_cons->zas,mem_cons_of_mem->zax,filterMap_cons->zay,getElem?_range->zaA,length_nil->zaF,drop_eq_getElem_cons->zaH,mem_range->zaI,take_length->zaJ,map_congr_left->zaK,length_append->zaM,mem_cons_self->zaN,length_take->zaU,mem_iff_getElem->zaV,getElem?_eq_none_iff->zaZ,length_range->za2,take_add_one->za3,all_cons->za5,getElem?_set_self->za8,map_nil->za9,take_append_drop->zbe,mem_of_mem_drop->zbh,getElem_of_mem->zbk,mem_singleton->zbm,getElem?_ofFn->zbn,getElem?_set->zbs,any_eq_false->zbt,mem_map->zbv,drop_length->zbx,getElem_mem->zbz,all_eq_true->zbA,map_const'->zbC,range_succ->zbI,take_left->zbJ,drop_left->zbK
open Int renaming toNat_natCast->zab,mul_le_mul_of_nonneg_left->zai,mul_emod->zan,emod_lt_of_pos->zaq,mul_le_mul->zaw,emod_nonneg->zaE,emod_add_mul_ediv->zaG,pow_succ->zaL,mul_assoc->zaO,emod_emod->zaQ,tmod_eq_emod_of_nonneg->zaX,mul_nonneg->za0,emod_eq_of_lt->za4,one_mul->za6,le_refl->za7,min_eq_left->zbd,mul_comm->zbg,mul_neg->zbl,emod_add_emod->zbu,mul_one->zbE,add_zero->zbQ,add_emod->zbS,sub_emod->zbT
open Bool renaming and_eq_true->zac,true_and->zaz,not_eq_true'->zbq,false_and->zbL
open Nat renaming le_refl->zae,mul_le_mul->zak,mul_comm->zar,mod_eq_of_lt->zat,ble_eq_true_of_le->zau,zero_add->zav,dvd_of_mod_eq_zero->zaC,eq_zero_or_pos->zaD,mod_eq_zero_of_dvd->zaR,le_of_ble_eq_true->zaS,sub_self->zaT,div_add_mod->zaW,lt_or_ge->zaY,add_mul_mod_self_left->za1,add_zero->zba,div_lt_iff_lt_mul->zbc,pow_succ->zbf,pow_le_pow_right->zbi,dvd_trans->zbo,add_sub_cancel->zbp,mod_lt->zbr,le_trans->zbw,div_eq_of_lt->zby,lt_succ_self->zbB,zero_le->zbD,not_lt_zero->zbF,mul_pos->zbG,add_mod->zbH,le_of_dvd->zbM,and_assoc->zbN,succ_div->zbO,sub_zero->zbP,add_comm->zbR
open Option renaming map_some->zam,map_eq_some_iff->zaB
open Option.some renaming inj->zaP
open Classical renaming choose_spec->zbb
open List.Perm renaming refl->zbj
namespace Go.Am
def sj:kJ->Bool
 |.skip|.ret|.exit _=>true
 |.eF _ ops|.rl _ ops=>ops.all fun o=>Nat.ble o.op.fm 1
 |.seq a b=>sj a&&sj b
 |.cond _ a b=>sj a&&sj b
 |.block _ c=>sj c
 |_=>false
structure gu (σ σ':St):Prop where
 h:∀n,σ.used n=true->σ'.h n=σ.h n
 u:∀n,σ.used n=true->σ'.used n=true
theorem gu.refl (σ:St):gu σ σ:=⟨fun _ _=>rfl,fun _ h=>h⟩
theorem gu.trans {σ σ1 σ2:St} (a:gu σ σ1) (b:gu σ1 σ2):gu σ σ2:=⟨fun n hn=>(b.h n (a.u n hn)).trans (a.h n hn),fun n hn=>b.u n (a.u n hn)⟩
theorem gu.put (σ:St) (d:Option Nat) (v:ao):gu σ (σ.put d v):=by cases d<;>exact⟨fun _ _=>rfl,fun _ h=>h⟩
theorem gu.dH:∀{l:List (Nat×av)} {σ σ':St},σ.dH l=some σ'->gu σ σ'
 |[],σ,σ',h=>by simp only[St.dH] at h;injection h with h;subst h;exact gu.refl _
 |(n,b)::l,σ,σ',h=>by
  simp only[St.dH] at h;split at h
  ·rename_i σ1 e;obtain⟨hu,rfl⟩:=pE e;refine gu.trans ⟨fun m hm=>?_,fun m hm=>?_⟩ (gu.dH h)
   ·show aQ σ.h n (some b) m=_;rw[dA _ _ _ _ (fun e=>by subst e;rw[hu] at hm;cases hm)]
   ·show aQ σ.used n true m=true;rw[lc];split
    ·rfl
    ·exact hm
  ·cases h
theorem gu.exec {T:aZ} {d:Option Nat} {op:aY} {σ σ':St} (hc:Nat.ble op.fm 1=true) (h:exec T d op σ=some σ'):gu σ σ':=by
 rw[rK T d op σ (zaS hc)] at h;cases hr:rd T d op σ.ev σ.h with
 |none=>rw[hr] at h;cases h
 |some x=>
  rw[hr] at h;simp only[Option.bind_some,fin] at h;rw[zaB] at h;obtain⟨σ1,h1,rfl⟩:=h;exact(gu.dH h1).trans (gu.put _ _ _)
theorem gu.f0 {T:aZ} {o:cT} {σ σ':St} (hc:Nat.ble o.op.fm 1=true) (h:f0 T o σ=some σ'):gu σ σ':=by
 unfold Am.f0 at h;split at h
 ·exact gu.exec hc h
 ·split at h
  ·split at h
   ·exact gu.exec hc h
   ·injection h with h;subst h;exact gu.put _ _ _
  ·injection h with h;subst h;exact gu.put _ _ _
  ·cases h
theorem gu.mF {T:aZ}:∀{os:List cT} {σ σ':St},os.all (fun o=>Nat.ble o.op.fm 1)=true->mF T os σ=some σ'->gu σ σ'
 |[],σ,σ',_,h=>by simp only[Am.mF] at h;injection h with h;subst h;exact gu.refl _
 |o::os,σ,σ',hc,h=>by
  simp only[za5,zac] at hc;simp only[Am.mF] at h;split at h
  ·rename_i σ1 e;exact(gu.f0 hc.1 e).trans (gu.mF hc.2 h)
  ·cases h
theorem gu.oG {T:aZ}:∀{os:List cT} {dV fs:List (Option FP)} {σ σ':St},os.all (fun o=>Nat.ble o.op.fm 1)=true->oG T os dV σ=some (fs,σ')->gu σ σ'
 |[],dV,fs,σ,σ',_,h=>by simp only[Am.oG] at h;injection h with h;injection h with _ h;subst h;exact gu.refl _
 |o::os,dV,fs,σ,σ',hc,h=>by
  simp only[za5,zac] at hc;simp only[Am.oG] at h;split at h
  ·rename_i σ1 e;exact(gu.f0 hc.1 e).trans (gu.oG hc.2 h)
  ·cases h
def ua.st:ua->St
 |.gC σ=>σ
 |.ext _ σ=>σ
 |.ret σ=>σ
theorem Cl {T:aZ}:∀(mc:kJ) {σ:St} {o:ua},sj mc=true->eC T mc σ=some o->gu σ o.st
 |.skip,σ,o,_,h=>by simp only[eC] at h;injection h with h;subst h;exact gu.refl _
 |.ret,σ,o,_,h=>by simp only[eC] at h;injection h with h;subst h;exact gu.refl _
 |.exit i,σ,o,_,h=>by simp only[eC] at h;injection h with h;subst h;exact gu.refl _
 |.eF d ops,σ,o,hc,h=>by
  simp only[eC] at h;split at h
  ·rename_i σ1 e;injection h with h;subst h;exact gu.mF hc e
  ·cases h
 |.rl ps ops,σ,o,hc,h=>by
  simp only[eC] at h;split at h
  ·rename_i fs σ1 e;cases hp:xZ ps fs with
   |true=>rw[hp] at h;injection h with h;subst h;exact gu.oG hc e
   |false=>rw[hp] at h;cases h
  ·cases h
 |.seq a b,σ,o,hc,h=>by
  simp only[sj,zac] at hc;simp only[eC] at h;cases e:eC T a σ with
  |none=>rw[e] at h;cases h
  |some o1=>
   have h1:=Cl a hc.1 e;rw[e] at h;cases o1 with
   |gC σ1=>exact h1.trans (Cl b hc.2 h)
   |ext i σ1=>injection h with h;subst h;exact h1
   |ret σ1=>injection h with h;subst h;exact h1
 |.cond c a b,σ,o,hc,h=>by
  simp only[sj,zac] at hc;simp only[eC] at h;split at h
  ·split at h
   ·exact Cl a hc.1 h
   ·exact Cl b hc.2 h
  ·cases h
 |.block id c,σ,o,hc,h=>by
  simp only[sj] at hc;simp only[eC] at h;cases e:eC T c σ with
  |none=>rw[e] at h;cases h
  |some o1=>
   have h1:=Cl c hc e;rw[e] at h;cases o1 with
   |gC σ1=>injection h with h;subst h;exact h1
   |ret σ1=>injection h with h;subst h;exact h1
   |ext i σ1=>
    simp only at h;split at h<;>(injection h with h;subst h;exact h1)
 |.join ..,_,_,hc,_=>by simp[sj] at hc
 |.loop ..,_,_,hc,_=>by simp[sj] at hc
def St.Fe (σ:St) (ms:List bZ):Option (Nat×Nat):=
 match σ.tD ms with
 |some [.one (.sl n sz lo len)]=>if n=aD then match σ.h aD with
  |some (.row _ _ rs (_::_))=>if sz=rs then some (lo,len) else none
  |_=>none
  else none
 |_=>none
def N4 (T:aZ) (mc:kJ) (ax:List bZ) (sig:aU) (ds:List Dv):Option (Nat×Nat):=
 match dX sig (ds.map (·.2)) with
 |[_]=>match eC T mc (pD sig ds) with
  |some (.gC σ)=>σ.Fe ax
  |some (.ret σ)=>σ.Fe ax
  |_=>none
 |_=>none
section
variable {B:Nat} {E:Ex} {w0 w w':World} {G G':Gh} {N:Nat} {h h':Nat->Option av} {used:Nat->Bool}
variable {P:Program} {T:aZ} {a:Act} {σ σ':St} {Q:Exit->Act->World->Prop}
theorem amE (sig:aU) (ds:List Dv):(pD sig ds).h aD=((dX sig (ds.map (·.2)))[aD - aD]?).bind mT:=by
 have cI:∀n,aD<=n->(pD sig ds).h n=((dX sig (ds.map (·.2)))[n - aD]?).bind mT:=fun n hn=>if_pos hn;exact cI aD (zae aD)
theorem amF (sig:aU) (ds:List Dv):(pD sig ds).used aD=true:=by
 have cI:∀n,aD<=n->(pD sig ds).used n=true:=fun n hn=>zau hn;exact cI aD (zae aD)
theorem ajd (x:Mode×PC):(sR [x]).qw aD=some (pL x.2):=by
 have cI:∀n,aD<=n->n - aD=0->(sR [x]).qw n=some (pL x.2):=fun n hn h0=>by
  show(if aD<=n then([x][n - aD]?).map _ else none)=_
  rw[if_pos hn,h0];rfl
 exact cI aD (zae aD) (zaT aD)
theorem auN (hT:o6 P T) (hm:P.follows .mixedOrders=true) {f:FuncId} {fn:Func} {c:Code} {mc:kJ} {ms:List bZ} {sig:aU} {M:List Dv->Option (Nat×Nat)} (hf:P.funcs[f]? =some fn) (hb:fn.body=some c)
  (hc:kz P fn.ntmps c mc=true) (hr:oC P fn.results.toList ms=true) (MD:sj mc=true) (hM:∀ds lo len,M ds=some (lo,len)->ds.length<=fn.ntmps/\N4 T mc ms sig ds=some (lo,len)):Dg P f sig M:=by
 intro ds lo len lW w vals pas ha;obtain⟨hN,cP⟩:=hM ds lo len lW;refine calls_of_wp hf hb ?_;have r0:=R.Hv (N:=fn.ntmps) ha hN;have gA:∀p∈pas,∀pc∈p.ps,Good w pc:=by
  intro p hp pc bA;obtain⟨i,hi,rfl⟩:=zbk hp;have hd:ds[i]? =some (ds[i]'(by rw[<-ha.l2];exact hi)):=zaa _;have hv:vals[i]? =some (vals[i]'(by rw[ha.l1,<-ha.l2];exact hi)):=zaa _;exact(ha.at_ i _ _ _ hd hv (zaa hi)).2.1 pc bA
 have hg:∀x∈dX sig (pas.map (·.ps)),Good w x.2:=by
  intro x hx;obtain⟨l,hl,qW⟩:=Gz hx;obtain⟨p,hp,rfl⟩:=zbv.1 hl;exact gA p hp _ qW
 have G4:ds.map (·.2)=(pas.map (·.ps)).map fun l=>l.map PC.er:=by
  apply zal;intro i;simp only[zaj];cases hd:ds[i]? with
  |none=>
   have:ds.length<=i:=zaZ.1 hd;rw[zad (by rw[ha.l2];exact this)];rfl
  |some d=>
   have hi:=(zag.1 hd).1;have hv:vals[i]? =some (vals[i]'(by rw[ha.l1];exact hi)):=zaa _;have hp:pas[i]? =some (pas[i]'(by rw[ha.l2];exact hi)):=zaa _;have:=(ha.at_ i d _ _ hd hv hp).1;rw[hp];simp only[zam];rw[this]
 have G9:(pD sig ds).h aD=((dX sig (ds.map (·.2)))[aD - aD]?).bind mT:=amE sig ds;have hpu:(pD sig ds).used aD=true:=amF sig ds;unfold N4 at cP;rw[G4,DT] at cP G9;generalize ni:dX sig (pas.map (·.ps))=fl at cP r0 hg G9;have gi:=ha.ok;rw[ni] at gi;split at cP
 case h_2=>cases cP
 rename_i y hy;obtain⟨x,rfl⟩:∃x,fl=[x]:=by
  match fl,hy with
  |[x],_=>exact⟨x,rfl⟩
 obtain⟨m,pc⟩:=x;obtain⟨sz,PT,cap,px,Y1,ft,pw,s7⟩:=(gi (m,pc) (by simp)).fN;dsimp only at Y1 s7;subst Y1;have Ed:(pD sig ds).h aD=some (.row false m sz (px.map fun e=>e.map PC.er)):=by
  rw[G9,zaT];simp[mT,PC.fo]
 have fin:∀{σ:St} {a:Act} {w':World} {G:Gh},σ.h aD=(pD sig ds).h aD->σ.Fe ms=some (lo,len)->R w.heap.size (sR [(m,.list sz PT cap px)]) w fn.ntmps σ a w' G->a.defers=[]/\∃v,(results fn a.tmps).run P w'=.ok v w'/\
   ∃(m':Mode) (be nO:Nat) (a':Option Addr) (xs:List (List PC)) (v':Value),[(m,PC.list sz PT cap px)]=[(m',.list be a' nO xs)]/\(Ending.returned v)=.returned v'/\xs≠[]/\
   (∃(b o:Nat) (a2:Option Addr),a'=some (ad b o)/\v'=.slice a2 len (nO - lo)/\lo+len<=nO/\((lo<nO\/lo=0)->a2=some (ad b (o+lo*be))))/\
   Fr w.heap.size (yW [(m',.list be a' nO xs)]) w w'/\∃q:PC,q.er=(PC.list be a' nO xs).er/\rv w' m' (.list be a' nO xs) q:=by
  intro σ a w' G kQ hx r;rw[Ed] at kQ;unfold St.Fe at hx;split at hx
  ·rename_i n szq Np Nl e1;split at hx
   ·rename_i hn;subst hn;rw[kQ] at hx;split at hx
    ·rename_i gr m0 vb e0 es0 gk;split at hx
     case isFalse=>cases hx
     rename_i al4;injection hx with hx;injection hx with mf e8;subst mf e8;injection gk with gk;injection gk with _ _ xE iH;have aE:px≠[]:=by rintro rfl;cases iH
     have iG:=hg (m,.list sz PT cap px) (by simp);rcases iG.cases with h0|⟨_,kC,b,o,rfl⟩
     ·exact absurd h0 aE
     have e2:wq σ 0 ([(m,PC.list sz (some (ad b o)) cap px)].map fun x=>(x.1,x.2.er))=some [.list sz (px.map fun e=>e.map PC.er)]:=by
      simp only[zah,za9,wq,B8,PC.fo,zba,kQ];rw[if_pos ⟨trivial,trivial,trivial,s7,trivial⟩]
     obtain⟨us,u1,u2,_,u3⟩:=It r hr e1;obtain⟨v,rfl⟩:∃v,us=[v]:=by
      match us,u2 with
      |[v],_=>exact⟨v,rfl⟩
     have hv:=(u3 0 _ v rfl rfl).iV (by simp);have kF:lm (G.g aD) szq Np Nl v:=hv.1 (by rw[kQ];simp);have al3:szq=sz:=al4.trans xE.symm;have vR:=ajd (m,PC.list sz (some (ad b o)) cap px);obtain⟨p1,p2,p3,p4,p6,_⟩:=r.qw _ _ _ vR kQ;rw[wu aE] at p1 p2 p3 p4;dsimp only at p1 p2 p3 p4;obtain⟨q,oq,k1,k2,k3,_⟩:=F3 gi hg r e2 (i:=0) rfl;refine⟨r.defers,_,N7 fn a.tmps u1,m,sz,cap,some (ad b o),px,v,rfl,rfl,aE,?_,⟨r.fr.os,r.fr.tape,r.fr.output,r.fr.size,r.fr.block,r.fr.kv⟩,q,?_,k3⟩
     ·rcases kF with⟨h0,_⟩|⟨_,a2,h1,h2,h3⟩
      ·rw[p1] at h0;cases h0
      ·rw[p2,p3,p4] at*
       subst al3;exact⟨b,o,a2,rfl,h1,h2,h3⟩
     ·rw[k2];simp only[List.getElem?_cons_zero,Option.some.injEq] at k1;rw[<-k1,PC.fo]
    ·cases hx
   ·cases hx
  ·cases hx
 split at cP
 ·rename_i σ e;have kQ:=(Cl mc MD e).h aD hpu;exact lU hT hm mc hc e r0 fun a w' G r=>fin kQ cP r
 ·rename_i σ e;have kQ:=(Cl mc MD e).h aD hpu;exact lU hT hm mc hc e r0 fun a w' G r=>fin kQ cP r
 ·cases cP
end
def St.win (σ:St) (i lo len:Nat):St:=σ.put (some i) (.one (.sl aD 1 lo len))
def N6 (T:aZ) (mc:kJ) (ax:List bZ) (i lo len:Nat) (ds:List Dv):Option (List Dv×List C):=
 match eC T mc ((pD (mB i) ds).win i lo len) with
 |some (.gC σ)=>σ.wA ax (dX (mB i) (ds.map (·.2)))
 |some (.ret σ)=>σ.wA ax (dX (mB i) (ds.map (·.2)))
 |_=>none
theorem Zn {α:Type}:∀{i:Nat} {xss:List (List α)} {x:α},xss[i]? =some [x]->dX (mB i) xss=[(.bc,x)]
 |0,[],_,h=>by cases h
 |0,xs::xss,x,h=>by
  injection h with h;subst h;show fF [some .bc] [x]++dX [] xss=_;rfl
 |i+1,[],_,h=>by cases h
 |i+1,xs::xss,x,h=>by
  show fF [] xs++dX (mB i) xss=_;rw[Zn (i:=i) (xss:=xss) (x:=x) h];rfl
section
variable {B:Nat} {E:Ex} {w0 w w':World} {G G':Gh} {N:Nat} {h h':Nat->Option av} {used:Nat->Bool}
variable {P:Program} {T:aZ} {a:Act} {σ σ':St} {Q:Exit->Act->World->Prop}
theorem ahw {vals:List Value} {v:Value} {i N:Nat} (hi:i<vals.length):
  ({tmps:=(vals.set i v).toArray++Array.replicate (N - (vals.set i v).toArray.size) undef,defers:=[]}:Act)=({tmps:=vals.toArray++Array.replicate (N - vals.toArray.size) undef,defers:=[]}:Act).put (some i) v:=by
 simp only[Act.put];congr 1;apply Array.ext';simp[List.set_append,hi]
theorem auW (hT:o6 P T) (hm:P.follows .mixedOrders=true) {f:FuncId} {fn:Func} {c:Code} {mc:kJ} {ms:List bZ} {i:Nat} {M:List Dv->Option (List Dv×List C)} (hf:P.funcs[f]? =some fn) (hb:fn.body=some c)
  (hc:kz P fn.ntmps c mc=true) (hr:oC P fn.results.toList ms=true)
  (hM:∀lo len ds rs dK,M (dI lo::dI (lo+len)::ds)=some (rs,dK)->ds.length<=fn.ntmps/\N6 T mc ms i lo len ds=some (rs,dK)):AJ P f i M:=by
 intro lo len ds rs dK ys lW hdi w vals pas ha b0 o0 Lg n0 a' Sq cO kf Rm;obtain⟨hN,cP⟩:=hM lo len ds rs dK lW;refine calls_of_wp hf hb ?_;have fW:i<ds.length:=(zag.1 hdi).1;have Ef:i<vals.length:=by rw[ha.l1];exact fW
 have gA:∀p∈pas,∀pc∈p.ps,Good w pc:=by
  intro p hp pc bA;obtain⟨i,hi,rfl⟩:=zbk hp;have hd:ds[i]? =some (ds[i]'(by rw[<-ha.l2];exact hi)):=zaa _;have hv:vals[i]? =some (vals[i]'(by rw[ha.l1,<-ha.l2];exact hi)):=zaa _;exact(ha.at_ i _ _ _ hd hv (zaa hi)).2.1 pc bA
 have Sc:pas[i]? =some (pas[i]'(by rw[ha.l2];exact fW)):=zaa _;obtain⟨k1,k2,k3⟩:=ha.at_ i _ _ _ hdi Sq Sc;generalize pas[i]'(by rw[ha.l2];exact fW)=p at Sc k1 k2 k3;obtain⟨pk,pps,pb,po⟩:=p;injection k1 with k1a HE;simp only at k1a HE k2 k3;subst k1a;simp only at k3;obtain⟨pc,rfl⟩:∃pc,pps=[pc]:=by
  have hl:=congrArg List.length k3;rw[zao] at hl;match pps,hl with
  |[pc],_=>exact⟨pc,rfl⟩
 injection k3 with k3 _;injection HE with HE _;obtain⟨rm,Di,rC,E6,rfl⟩:∃rm Di rC E6,pc=.list rm Di rC E6:=by
  cases pc with
  |int k n=>cases k3
  |bool b=>cases k3
  |list sz a cap xs=>exact⟨_,_,_,_,rfl⟩
 rw[PC.fo] at HE;injection HE with z1 z2;subst z1;rw[PC.val] at k3;injection k3 with z3 z4 z5;subst z3 z4 z5;have iG:=k2 _ (zbm.2 rfl);have aE:E6≠[]:=by rintro rfl;simp at cO
 have Ec:dX (mB i) (pas.map (·.ps))=[(.bc,PC.list 1 (some (ad b0 o0)) rC E6)]:=Zn (by rw[zaj,Sc];rfl);have kC:E6.length<=rC:=by
  rcases iG.cases with h0|⟨_,h1,_⟩
  ·exact absurd h0 aE
  ·exact h1
 have r1:=R.Hv (N:=fn.ntmps) ha hN;have r0:=r1.put (d:=some i) (x:=.one (.sl aD 1 lo len)) (v:=.slice a' len (rC - lo)) (RA.il rfl (by
   intro _;have hg:(nR w (dX (mB i) (pas.map (·.ps)))).g aD=⟨false,b0,o0,rC,E6,none⟩:=by
    rw[Ec];simp only[nR,zaT];exact wu aE
   show lm _ 1 lo len _;rw[hg];exact .inr ⟨rfl,a',rfl,by simp only;omega,Rm⟩)) (fun m hm=>zau (Nat.le_of_eq (show aD=m from(show m=aD from hm).symm))) (fun n hn=>by
   injection hn with hn;subst hn;omega)
 rw[<-ahw Ef] at r0;have hg:∀x∈dX (mB i) (pas.map (·.ps)),Good w x.2:=by
  intro x hx;obtain⟨l,hl,qW⟩:=Gz hx;obtain⟨p,hp,rfl⟩:=zbv.1 hl;exact gA p hp _ qW
 have G4:ds.map (·.2)=(pas.map (·.ps)).map fun l=>l.map PC.er:=by
  apply zal;intro i;simp only[zaj];cases hd:ds[i]? with
  |none=>
   have:ds.length<=i:=zaZ.1 hd;rw[zad (by rw[ha.l2];exact this)];rfl
  |some d=>
   have hi:=(zag.1 hd).1;have hv:vals[i]? =some (vals[i]'(by rw[ha.l1];exact hi)):=zaa _;have hp:pas[i]? =some (pas[i]'(by rw[ha.l2];exact hi)):=zaa _;have:=(ha.at_ i d _ _ hd hv hp).1;rw[hp];simp only[zam];rw[this]
 unfold N6 at cP;rw[G4,DT] at cP;unfold JT;generalize ni:dX (mB i) (pas.map (·.ps))=fl at cP r0 hg;have gi:=ha.ok;rw[ni] at gi;have fin:∀{σ:St} {a:Act} {w':World} {G:Gh},σ.wA ms (fl.map fun x=>(x.1,x.2.er))=some (rs,dK)->R w.heap.size (sR fl) w fn.ntmps σ a w' G->a.defers=[]/\∃v,(results fn a.tmps).run P w'=.ok v w'/\
   ∃bC:List (K×List PC),bC.map (fun p=>(p.1,p.2.map PC.er))=rs/\(Ending.returned v)=.returned (wB bC)/\(∀p∈bC,p.1≠ .ptr/\(p.1=.one->p.2.length=1))/\
   AH w' w.heap.size (bC.flatMap (·.2))/\Fr w.heap.size (yW fl) w w'/\
   ∃qs:List PC,qs.map PC.er=dK/\qs.length=fl.length/\∀(i:Nat) (x:Mode×PC) (q:PC),fl[i]? =some x->qs[i]? =some q->rv w' x.1 x.2 q:=by
  intro σ a w' G hx r;unfold St.wA at hx;split at hx
  ·rename_i tJ T1 e1 e2;injection hx with hx;injection hx with mf e8;subst mf e8;have hE:∀b,(sR fl) b->∃n gr m sz xs,aD<=n/\σ.h n=some (.row gr m sz xs)/\m≠ .aL/\pi G n b/\(m=.bc->¬bH b (G.g n).px):=by
    rintro b ⟨x,uM,Hp⟩;obtain⟨i,hi⟩:=List.getElem?_of_mem uM;obtain⟨q,o,_,_,_,gr,sz,xs,k1,k2,k3,k4⟩:=F3 gi hg r e2 hi;exact⟨aD+i,gr,x.1,sz,xs,Nat.le_add_right _ _,k1,k4,k2 b Hp,fun hm=>k3 hm b⟩
   obtain⟨bC,p1,p2,p3,p4⟩:=Uw (r.lH hE) hr e1;obtain⟨ol,_⟩:=NP e2;have hq:∀i:Fin fl.length,∃q,T1[i.1]? =some (PC.er q)/\rv w' (fl[i.1]).1 (fl[i.1]).2 q:=by
    intro i;obtain⟨q,o,k1,k2,k3,_⟩:=F3 gi hg r e2 (zaa i.2);exact⟨q,by rw[k1,k2],k3⟩
   refine⟨r.defers,_,p2,bC,p1,rfl,p3,p4,⟨r.fr.os,r.fr.tape,r.fr.output,r.fr.size,r.fr.block,r.fr.kv⟩,List.ofFn fun i=>Classical.choose (hq i),?_,by simp,fun i x q hi lZ=>?_⟩
   ·apply zal;intro i;simp only[zaj];by_cases hi:i<fl.length
    ·rw[zbn,dif_pos hi];exact(zbb (hq ⟨i,hi⟩)).1.symm
    ·rw[zad (by simp;omega),zad (by rw[ol];simp;omega)];rfl
   ·obtain⟨hl,e⟩:=zag.1 hi;rw[zbn,dif_pos hl] at lZ;injection lZ with lZ;subst lZ;subst e;exact(zbb (hq ⟨i,hl⟩)).2
  ·cases hx
 split at cP
 ·rename_i σ e;exact lU hT hm mc hc e r0 fun a w' G r=>fin cP r
 ·rename_i σ e;exact lU hT hm mc hc e r0 fun a w' G r=>fin cP r
 ·cases cP
end
def Iy (k:K) (ts:List Ty) (x:Ty.DL ts):SV:=
 match k with
 |.one=>match Ty.cells ts x with
  |[c]=>.one c
  |_=>.one .cd
 |.agg=>.agg (Ty.cells ts x)
 |.ptr=>.one (.dr ts x 0)
theorem aew (k:K) (ts:List Ty) (x:Ty.DL ts):(Iy k ts x).er=AK (k,Ty.aW ts x):=by
 cases k with
 |one=>
  match ts,x with
  |[],x=>rfl
  |[t],x=>rfl
  |t::u::[],x=>rfl
  |t::u::v::ts,x=>rfl
 |agg=>simp only[Iy,SV.er,AK,Ty.m5]
 |ptr=>rfl
def ID:Nat->(as:ar)->bj as.bi->(Nat->SV)
 |_,[],_=>fun _=>.one .cd
 |k,[a],x=>aQ (fun _=>.one .cd) k (Iy a.1 a.2 x)
 |k,a::b::as,x=>aQ (ID (k+1) (b::as) x.2) k (Iy a.1 a.2 x.1)
theorem afM:∀(k:Nat) (as:ar) (x:bj as.bi),sQ (ID k as x)=v9 k (dL as x)
 |k,[],x=>rfl
 |k,[a],x=>by
  have e:(Iy a.1 a.2 x).er=AK (a.1,Ty.aW a.2 x):=aew a.1 a.2 x;simp only[ID,dL,v9,yV];rw[e];rfl
 |k,a::b::as,x=>by
  have ih:=afM (k+1) (b::as) x.2;simp only[ID,dL,yV,aew,ih];rw[v9]
def V0 (as:ar) (x:bj as.bi):ai:={env:=ID 0 as x,h:=fun _=>none,used:=fun n=>Nat.ble aD n}
theorem atH (as:ar) (x:bj as.bi):(V0 as x).er=Hw (dL as x):=by
 simp only[V0,ai.er,Hw,afM];rfl
section
variable {ρ:Type}
def yg (σ:ai):List bZ->(List SV->Option ρ)->Option ρ
 |[],k=>k []
 |.tmp t::ms,k=>yg σ ms fun vs=>k (σ.env t::vs)
 |.cell t sz ag::ms,k=>match σ.env t with
  |.one p=>IL σ.h p sz fun cs=>yg σ ms fun vs=>k (CK ag cs::vs)
  |_=>none
theorem Fw {σ:ai}:∀{ms:List bZ} {k:List SV->Option ρ} {r:ρ},yg σ ms k=some r->∃vs,σ.er.tD ms=some (vs.map SV.er)/\k vs=some r
 |[],k,r,h=>⟨[],rfl,h⟩
 |.tmp t::ms,k,r,h=>by
  simp only[yg] at h;obtain⟨vs,h1,h2⟩:=Fw h;exact⟨_,by simp only[St.tD,h1];rfl,h2⟩
 |.cell t sz ag::ms,k,r,h=>by
  simp only[yg] at h;split at h
  ·rename_i p hp;obtain⟨cs,h1,h2⟩:=V5 h;obtain⟨vs,h3,h4⟩:=Fw h2;have bJ:σ.er.env t=.one p.er:=by show(σ.env t).er=_;rw[hp];rfl
   have mH:loadAt σ.er.h p.er sz=some (cs.map SC.er):=h1;exact⟨_,by simp only[St.tD,bJ,mH,h3,zah,FF],h4⟩
  ·cases h
def Wm (h:Nat->Option SB) (c:SC) (k:(t:Ty)->t.D->List Nat->Option ρ):Option ρ:=
 match c with
 |.v t x=>gn t.gK (k t x [])
 |.nil ts=>match ts with
  |[]=>none
  |t::us=>k (.list (t::us)) ([]:List (Ty.DL (t::us))) []
 |.sl n sz lo len=>match h n with
  |some (.row true m ts xs)=>dv ts.length sz (gn m.own (dv lo 0 ((fg xs len).af fun ys=>k (.list ts) ys [n])))
  |_=>none
 |_=>none
theorem atZ {h:Nat->Option SB} {c:SC} {k:(t:Ty)->t.D->List Nat->Option ρ} {r:ρ} (hx:Wm h c k=some r):
  ∃(t:Ty) (x:t.D) (ns:List Nat),nD (dw h) c.er=some (t.er x,ns)/\k t x ns=some r:=by
 unfold Wm at hx;split at hx
 ·rename_i t x;have h1:=(cZ hx).1;replace hx:=(cZ hx).2;exact⟨t,x,[],by simp only[SC.er,nD,Ty.z7,h1,if_true],hx⟩
 ·split at hx
  ·cases hx
  ·rename_i t us;exact⟨.list (t::us),[],[],by simp[SC.er,nD,Ty.er],hx⟩
 ·rename_i n sz lo len;split at hx
  ·rename_i m ts xs hn;have bX:=(bw hx).1;replace hx:=(bw hx).2;subst bX;have hm:=(cZ hx).1;replace hx:=(cZ hx).2;have bX:=(bw hx).1;replace hx:=(bw hx).2;subst bX;rw[fL] at hx;obtain⟨ys,hw,hx⟩:=hx;obtain⟨w1,w2⟩:=agK hw;refine⟨.list ts,ys,[n],?_,hx⟩;have cF:m≠ .aL:=by rintro rfl;cases hm
   simp only[SC.er,nD,dw,hn,zam,SB.er,zao,w1,w2,ne_eq,cF,not_false_eq_true,and_self,if_true,Ty.er]
  ·cases hx
 ·cases hx
def OD (h:Nat->Option SB):List SC->(List TD->List Nat->Option ρ)->Option ρ
 |[],k=>k [] []
 |c::cs,k=>Wm h c fun t x ns=>OD h cs fun l mS=>k (⟨t,x⟩::l) (ns++mS)
theorem agu {h:Nat->Option SB}:∀{cs:List SC} {k:List TD->List Nat->Option ρ} {r:ρ},OD h cs k=some r->
  ∃l ns,wz (dw h) (cs.map SC.er)=some (dC l,ns)/\k l ns=some r
 |[],k,r,hx=>⟨[],[],rfl,hx⟩
 |c::cs,k,r,hx=>by
  simp only[OD] at hx;obtain⟨t,x,ns,h1,h2⟩:=atZ hx;obtain⟨l,mS,h3,h4⟩:=agu h2;exact⟨⟨t,x⟩::l,ns++mS,by simp[wz,h1,h3,dC],h4⟩
def kOf:Bool->K
 |true=>.agg
 |false=>.one
def IY (h:Nat->Option SB):List SV->(List cE->List Nat->Option ρ)->Option ρ
 |[],k=>k [] []
 |v::vs,k=>match v.cells? with
  |some (ag,cs)=>OD h cs fun l ns=>IY h vs fun ds mS=>k ((kOf ag,l)::ds) (ns++mS)
  |none=>none
theorem Wn {h:Nat->Option SB}:∀{vs:List SV} {k:List cE->List Nat->Option ρ} {r:ρ},IY h vs k=some r->
  ∃ds ns,tG (dw h) (vs.map SV.er)=some (ds.map cE.er,ns)/\k ds ns=some r
 |[],k,r,hx=>⟨[],[],rfl,hx⟩
 |v::vs,k,r,hx=>by
  simp only[IY] at hx;split at hx
  ·rename_i ag cs hc;obtain⟨l,ns,h1,h2⟩:=agu hx;obtain⟨ds,mS,h3,h4⟩:=Wn h2;refine⟨_,_,?_,h4⟩;simp only[zah,tG,SV.m5 hc,h1,h3];cases ag<;>rfl
  ·cases hx
end
def Ic:List Nat->Bool
 |[]=>true
 |n::l=> !(l.contains n)&&Ic l
theorem TS:∀{l:List Nat},Ic l=true->l.Nodup
 |[],_=>List.nodup_nil
 |n::l,h=>by
  simp only[Ic,zac,zbq] at h;rw[List.nodup_cons];refine⟨fun hm=>?_,TS h.2⟩;have:l.contains n=true:=by simpa using hm
  rw[this] at h;cases h.1
def OC (σ:ai) (ms:List bZ) (ax:ar):Option (bj ax.bi):=
 yg σ ms fun vs=>IY σ.h vs fun ds ns=>gn (Ic ns) (pI ax ds)
theorem agt {σ:ai} {ms:List bZ} {ax:ar} {y:bj ax.bi} (h:OC σ ms ax=some y):σ.er.ww ms=some (dL ax y):=by
 unfold OC at h;obtain⟨vs,h1,h2⟩:=Fw h;obtain⟨ds,ns,h3,h4⟩:=Wn h2;have h5:=(cZ h4).1;replace h6:=(cZ h4).2;have y6:tG σ.er.h (vs.map SV.er)=some (ds.map cE.er,ns):=h3;simp only[St.ww,h1,y6,if_pos (TS h5),tv h6]
def fB (N:Nat) (T:List aw) (sc:ca) (ms:List bZ) (args ax:ar) (x:bj args.bi):Option (bj ax.bi):=
 mV N T sc (V0 args x) (fun σ=>OC σ ms ax) (fun _ _=>none) (fun σ=>OC σ ms ax)
theorem asZ {T:List aw} {sc:ca} {ms:List bZ} {args ax:ar} {x:bj args.bi} {y:bj ax.bi} (h:fB aM T sc ms args ax x=some y):
  N1 (df T) sc.er ms (dL args x)=some (dL ax y):=by
 obtain⟨o,h1,h2⟩:=sq sc h;rw[atH] at h1;unfold N1;rw[h1];cases o with
 |gC τ=>
  obtain⟨fC,rfl,h2⟩:=h2;exact agt h2
 |ret τ=>
  obtain⟨fC,rfl,h2⟩:=h2;exact agt h2
 |ext i τ=>
  obtain⟨fC,rfl,h2⟩:=h2;cases h2
theorem A9:∀(as:ar) (x:bj as.bi),(dL as x).length=as.length
 |[],_=>rfl
 |[a],_=>rfl
 |a::b::as,x=>by simp only[dL,zas,A9 (b::as) x.2]
def sn:Nat->List (Option Mode)->List TD->List SC
 |c,some _::fs,⟨.list ts,xs⟩::l=>.sl (aD+c) ts.length 0 (ae (α:=Ty.DL ts) xs)::sn (c+1) fs l
 |c,some _::fs,⟨.int _,_⟩::l=>.cd::sn (c+1) fs l
 |c,some _::fs,⟨.bool,_⟩::l=>.cd::sn (c+1) fs l
 |c,none::fs,x::l=>.v x.1 x.2::sn c fs l
 |c,[],l=>l.map fun x=>.v x.1 x.2
 |c,_::_,[]=>[]
theorem Iw:∀(c:Nat) (fs:List (Option Mode)) (l:List TD),(sn c fs l).map SC.er=jA c fs (dC l)
 |c,some m::fs,⟨.list ts,xs⟩::l=>by
  simp only[sn,dC,zah,Ty.er,jA,SC.er];have:=Iw (c+1) fs l;simp only[dC] at this;rw[this];exact congrArg (fun q=>aj.sl (aD+c) ts.length 0 q::_) (zao (Ty.aW ts)).symm
 |c,some m::fs,⟨.int k,x⟩::l=>by
  simp only[sn,dC,zah,Ty.er,jA,SC.er];exact congrArg _ (Iw (c+1) fs l)
 |c,some m::fs,⟨.bool,x⟩::l=>by
  simp only[sn,dC,zah,Ty.er,jA,SC.er];exact congrArg _ (Iw (c+1) fs l)
 |c,none::fs,⟨t,x⟩::l=>by
  simp only[sn,dC,zah,jA,SC.er];exact congrArg _ (Iw c fs l)
 |c,[],l=>by
  cases l<;>simp[sn,dC,jA,SC.er]
 |c,some m::fs,[]=>rfl
 |c,none::fs,[]=>rfl
def VM (c:Nat) (s:List (Option Mode)) (ts:List Ty) (x:Ty.DL ts):SC:=
 match s with
 |[]=>.dr ts x 0
 |_::_=>match(Ty.jc ts x).getLast? with
  |some ⟨.list us,l⟩=>.cN ts x 0 (ts.length - 1) (aD+c) us.length (ae l)
  |_=>.cd
theorem atg (c:Nat) (s:List (Option Mode)) (ts:List Ty) (x:Ty.DL ts):(VM c s ts x).er=F5 c s (Ty.aW ts x):=by
 cases s with
 |nil=>rfl
 |cons f fs=>
  have h1:Ty.aW ts x=(Ty.jc ts x).map fun y=>y.1.er y.2:=(Ty.rF ts x).symm;have h2:(Ty.aW ts x).length=ts.length:=Ty.DO ts x;simp only[VM,F5];rw[h2,h1,List.getLast?_map];cases hl:(Ty.jc ts x).getLast? with
  |none=>rfl
  |some y=>
   obtain⟨t,l⟩:=y;cases t with
   |list us=>
    simp only[zam,Ty.er,SC.er,h1,ae];exact congrArg (aj.cN _ 0 (ts.length - 1) (aD+c) us.length) (zao (as:=(l:List (Ty.DL us))) (Ty.aW us)).symm
   |int k=>rfl
   |bool=>rfl
def Ix (c:Nat) (s:List (Option Mode)) (d:K×List Ty) (x:Ty.DL d.2):SV:=
 match d.1 with
 |.one=>match sn c s (Ty.jc d.2 x) with
  |[y]=>.one y
  |_=>.one .cd
 |.agg=>.agg (sn c s (Ty.jc d.2 x))
 |.ptr=>.one (VM c s d.2 x)
theorem aev (c:Nat) (s:List (Option Mode)) (d:K×List Ty) (x:Ty.DL d.2):(Ix c s d x).er=rz c s (d.1,Ty.aW d.2 x):=by
 obtain⟨k,ts⟩:=d;have h:=Iw c s (Ty.jc ts x);rw[Ty.rF] at h;cases k with
 |one=>
  simp only[Ix,rz,<-h];generalize sn c s (Ty.jc ts x)=l;match l with
  |[]=>rfl
  |[y]=>rfl
  |_::_::_=>rfl
 |agg=>simp only[Ix,rz,<-h,SV.er]
 |ptr=>exact congrArg ao.one (atg c s ts x)
def IE:Nat->Nat->aU->(as:ar)->bj as.bi->(Nat->SV)
 |_,_,_,[],_=>fun _=>.one .cd
 |k,c,sig,[a],x=>aQ (fun _=>.one .cd) k (Ix c sig.hd a x)
 |k,c,sig,a::b::as,x=>aQ (IE (k+1) (c+(fF sig.hd (Ty.jc a.2 x.1)).length) sig.tl (b::as) x.2) k (Ix c sig.hd a x.1)
theorem QM {α β:Type}:∀(s:List (Option Mode)) (l:List α) (l':List β),l.length=l'.length->(fF s l).length=(fF s l').length
 |some m::fs,x::xs,y::ys,h=>by simp only[fF,zas,QM fs xs ys (by simpa using h)]
 |none::fs,x::xs,y::ys,h=>by simp only[fF];exact QM fs xs ys (by simpa using h)
 |[],l,l',h=>by cases l<;>cases l'<;>rfl
 |some m::fs,[],[],h=>rfl
 |none::fs,[],[],h=>rfl
 |_::_,[],_::_,h=>by simp at h
 |_::_,_::_,[],h=>by simp at h
theorem aiM (ts:List Ty) (x:Ty.DL ts):(Ty.jc ts x).length=(Ty.aW ts x).length:=by
 rw[<-Ty.rF,dC,zao]
theorem abh (k c:Nat) (sig:aU) (d:Dv) (ds:List Dv):oL k c sig (d::ds)=aQ (oL (k+1) (c+(fF sig.hd d.2).length) sig.tl ds) k (rz c sig.hd d):=by
 cases sig with
 |nil=>
  have:(fF (aU.hd []) d.2).length=0:=rfl;rw[this];simp only[oL,zba,aU.tl,aU.hd]
 |cons s sig=>rfl
theorem afK:∀(k c:Nat) (sig:aU) (as:ar) (x:bj as.bi),sQ (IE k c sig as x)=oL k c sig (dL as x)
 |k,c,sig,[],x=>by cases sig<;>rfl
 |k,c,sig,[a],x=>by
  simp only[IE,dL,yV];have h:=aev c sig.hd a x;rw[abh];have e:oL (k+1) (c+(fF sig.hd (Ty.aW a.2 x)).length) sig.tl []=yU:=by
   simp only[oL]
  rw[e];exact congrArg (fun v=>aQ (sQ fun _=>SV.one SC.cd) k v) h
 |k,c,sig,a::b::as,x=>by
  have ih:=afK (k+1) (c+(fF sig.hd (Ty.jc a.2 x.1)).length) sig.tl (b::as) x.2;simp only[IE,dL,yV,aev,ih,abh (ds:=dL (b::as) x.2)];rw[QM sig.hd (Ty.jc a.2 x.1) (Ty.aW a.2 x.1) (aiM _ _)]
def wE (sig:aU) (as:ar) (x:bj as.bi):List (Mode×TD):=dX sig ((je as x).map (·.2))
theorem Fi (sig:aU) (as:ar) (x:bj as.bi):(wE sig as x).map (fun p=>(p.1,p.2.1.er p.2.2))=dX sig ((dL as x).map (·.2)):=by
 unfold wE;rw[<-vA,<-DT (fun p:TD=>p.1.er p.2)];simp only[List.map_map];rfl
def Wq:Mode×TD->Option SB
 |(m,⟨.list ts,xs⟩)=>some (.row false m ts xs)
 |_=>none
theorem at1 (p:Mode×TD):(Wq p).map SB.er=mT (p.1,p.2.1.er p.2.2):=by
 obtain⟨m,t,x⟩:=p;cases t<;>rfl
def Fz:List (Mode×TD)->Nat->Option SB
 |[],_=>none
 |p::_,0=>Wq p
 |_::l,n+1=>Fz l n
theorem agx:∀(l:List (Mode×TD)) (n:Nat),Fz l n=(l[n]?).bind Wq
 |[],n=>by simp[Fz]
 |p::l,0=>by simp[Fz]
 |p::l,n+1=>by simp[Fz,agx l n]
def afJ (fl:List (Mode×TD)):Nat->Option SB:=fun n=>match Nat.ble aD n with
 |true=>Fz fl (Nat.sub n aD)
 |false=>none
def IG (sig:aU) (as:ar) (x:bj as.bi):ai:={env:=IE 0 0 sig as x,h:=afJ (wE sig as x),used:=fun n=>Nat.ble aD n}
theorem V1 (sig:aU) (as:ar) (x:bj as.bi):(IG sig as x).er=pD sig (dL as x):=by
 simp only[IG,ai.er,pD,afK];congr 1;funext n;simp only[dw,afJ];cases hb:Nat.ble aD n with
 |true=>
  rw[if_pos (zaS hb),<-Fi,agx];simp only[zaj];cases (wE sig as x)[n - aD]? with
  |none=>simp
  |some p=>simp[at1]
 |false=>
  rw[if_neg (fun h=>by rw[zau h] at hb;cases hb)];rfl
def ai.lH (σ:ai):ai:={σ with h:=fun n=>match Nat.ble aD n with|true=>none|false=>σ.h n}
theorem ai.aqX (σ:ai):σ.lH.er=σ.er.lH:=by
 simp only[ai.lH,ai.er,St.lH];congr 1;funext n;simp only[dw];cases hb:Nat.ble aD n with
 |true=>rw[if_pos (zaS hb)];rfl
 |false=>rw[if_neg (fun h=>by rw[zau h] at hb;cases hb)]
section
variable {ρ:Type}
def V9 (σ:ai) (q:Nat) (p:Mode×TD) (k:TD->Option ρ):Option ρ:=
 match p with
 |(m,⟨.list ts,xs⟩)=>match σ.h (aD+q) with
  |some (.row _ m' us ys)=>gn (Mode.beq m' m) (gn (Ty.ui us ts) (gn (WU m us) ((mU (ae ys) (ae (α:=Ty.DL ts) xs)).af fun _=>k ⟨.list us,ys⟩)))
  |_=>none
 |_=>none
theorem abt (t:Ty) (x:t.D):(t.er x).ti= !t.gK:=by cases t<;>rfl
theorem abr:∀(ts:List Ty) (x:Ty.DL ts),(Ty.aW ts x).map C.ti=ts.map fun t=> !t.gK
 |[],_=>rfl
 |[t],x=>congrArg (fun b=>[b]) (abt t x)
 |t::u::ts,x=>by
  have:=abr (u::ts) x.2;simp only[zah] at this;simp only[Ty.aW,zah,abt,this]
theorem abu (ts:List Ty) (xs:List (Ty.DL ts)):(List.map (Ty.aW ts) xs).map (fun e=>e.map C.ti)=List.replicate xs.length (ts.map fun t=> !t.gK):=by
 induction xs with
 |nil=>rfl
 |cons x xs ih=>simp only[zah,abr,ih,zas,List.replicate_succ]
theorem atS {σ:ai} {q:Nat} {p:Mode×TD} {k:TD->Option ρ} {r:ρ} (h:V9 σ q p k=some r):∃o:TD,B8 σ.er q (p.1,p.2.1.er p.2.2)=some (o.1.er o.2)/\k o=some r:=by
 unfold V9 at h;split at h
 ·rename_i m ts xs;split at h
  ·rename_i gr m' us ys hn;have h1:=(cZ h).1;replace h:=(cZ h).2;have h2:=(cZ h).1;replace h:=(cZ h).2;have h3:=(cZ h).1;replace h:=(cZ h).2;rw[fL] at h;obtain⟨_,hs,h⟩:=h;have hl:ae ys=ae (α:=Ty.DL ts) xs:=by
    unfold mU at hs;split at hs
    ·assumption
    ·cases hs
   have h1:=Mode.beq_eq h1;have h2:=Ty.uj h2;subst h1 h2;refine⟨_,?_,h⟩;have bU:σ.er.h (aD+q)=some (.row gr m' us.length (List.map (Ty.aW us) ys)):=by simp[ai.er,dw,hn,SB.er]
   have eN:List.length ys=List.length (α:=Ty.DL us) xs:=hl;have hl1:(List.map (Ty.aW us) ys).length=(List.map (α:=Ty.DL us) (Ty.aW us) xs).length:=(zao _).trans (eN.trans (zao (as:=(xs:List (Ty.DL us))) (Ty.aW us)).symm);have xw:(List.map (Ty.aW us) ys).map (fun e=>e.map C.ti)=(List.map (α:=Ty.DL us) (Ty.aW us) xs).map (fun e=>e.map C.ti):=
    (abu us ys).trans ((congrArg (fun n=>List.replicate n _) eN).trans (abu us xs).symm)
   simp only[B8,Ty.er,bU];rw[if_pos ⟨trivial,trivial,hl1,ZC _ _ _ h3,xw⟩]
  ·cases h
 ·cases h
def Ow (σ:ai):Nat->List (Mode×TD)->(List TD->Option ρ)->Option ρ
 |_,[],k=>k []
 |q,p::l,k=>V9 σ q p fun o=>Ow σ (q+1) l fun os=>k (o::os)
theorem agd {σ:ai}:∀{l:List (Mode×TD)} {q:Nat} {k:List TD->Option ρ} {r:ρ},Ow σ q l k=some r->∃os,wq σ.er q (l.map fun p=>(p.1,p.2.1.er p.2.2))=some (dC os)/\k os=some r
 |[],q,k,r,h=>⟨[],rfl,h⟩
 |p::l,q,k,r,h=>by
  simp only[Ow] at h;obtain⟨o,h1,h2⟩:=atS h;obtain⟨os,h3,h4⟩:=agd h2;exact⟨o::os,by simp only[zah,wq,h1,h3,dC],h4⟩
end
def Fx (σ:ai) (ms:List bZ) (fl:List (Mode×TD)) (kk:Nat) (ax:ar):Option (bj ax.bi):=
 yg σ.lH ms fun vs=>IY σ.lH.h vs fun ds ns=>gn (Ic ns) (dv ds.length kk (Ow σ 0 fl fun os=>pI ax (ds++os.map fun o=>(.one,[o]))))
theorem OE {σ:ai} {ms:List bZ} {fl:List (Mode×TD)} {kk:Nat} {ax:ar} {y:bj ax.bi} (h:Fx σ ms fl kk ax=some y):
  σ.er.wA ms (fl.map fun p=>(p.1,p.2.1.er p.2.2))=some (wH kk (dL ax y)):=by
 unfold Fx at h;obtain⟨vs,h1,h2⟩:=Fw h;obtain⟨ds,ns,h3,h4⟩:=Wn h2;have h5:=(cZ h4).1;replace h4:=(cZ h4).2;have h6:=(bw h4).1;replace h4:=(bw h4).2;obtain⟨os,h7,h8⟩:=agd h4;have y6:tG σ.lH.er.h (vs.map SV.er)=some (ds.map cE.er,ns):=h3;have hr:σ.er.lH.ww ms=some (ds.map cE.er):=by
  rw[<-ai.aqX];simp only[St.ww,h1,y6,if_pos (TS h5)]
 simp only[St.wA,hr,h7,<-tv h8,CC,<-h6];congr 2
 ·rw[zbJ]
 ·rw[zbK];congr 1;clear h7 h8;induction os with
  |nil=>rfl
  |cons o os ih=>rw[zah,List.flatMap_cons,<-ih];rfl
def Co (N:Nat) (T:List aw) (sc:ca) (ms:List bZ) (args:ar) (mu:aU) (ax:ar) (x:bj args.bi):Option (bj ax.bi):=
 mV N T sc (IG mu args x) (fun σ=>Fx σ ms (wE mu args x) (ax.length - mu.jC) ax) (fun _ _=>none) (fun σ=>Fx σ ms (wE mu args x) (ax.length - mu.jC) ax)
theorem asY {T:List aw} {sc:ca} {ms:List bZ} {args:ar} {mu:aU} {ax:ar} {x:bj args.bi} {y:bj ax.bi} (h:Co aM T sc ms args mu ax x=some y):
  N2 (df T) sc.er ms mu (dL args x)=some (wH (ax.length - mu.jC) (dL ax y)):=by
 obtain⟨o,h1,h2⟩:=sq sc h;rw[V1] at h1;unfold N2;rw[h1];cases o with
 |gC τ=>
  obtain⟨fC,rfl,h2⟩:=h2;simp only[<-Fi];exact OE h2
 |ret τ=>
  obtain⟨fC,rfl,h2⟩:=h2;simp only[<-Fi];exact OE h2
 |ext i τ=>
  obtain⟨fC,rfl,h2⟩:=h2;cases h2
def Is (N:Nat) (T:List aw) (sc:ca) (ms:List bZ) (i:Nat) (args ax:ar) (lo hi:Int) (x:bj args.bi):Option (bj ax.bi):=
 match wE (mB i) args x with
 |[(_,⟨.list ts,xs⟩)]=>(j0 lo hi (ae (α:=Ty.DL ts) xs)).af fun p=>
  mV N T sc ((IG (mB i) args x).put (some i) (.one (.sl aD 1 p.1 p.2))) (fun σ=>Fx σ ms (wE (mB i) args x) (ax.length - 1) ax) (fun _ _=>none) (fun σ=>Fx σ ms (wE (mB i) args x) (ax.length - 1) ax)
 |_=>none
theorem as2 {T:List aw} {sc:ca} {ms:List bZ} {i:Nat} {args ax:ar} {lo len:Nat} {x:bj args.bi} {y:bj ax.bi} (h:Is aM T sc ms i args ax (lo:Int) ((lo+len:Nat):Int) x=some y):
  N6 (df T) sc.er ms i lo len (dL args x)=some (wH (ax.length - 1) (dL ax y)):=by
 unfold Is at h;split at h
 ·rw[fL] at h;obtain⟨p,hs,h⟩:=h;have hp:p=(lo,len):=by
   unfold j0 at hs;split at hs
   ·injection hs with hs;rw[<-hs];congr 1;omega
   ·cases hs
  subst hp;obtain⟨o,h1,h2⟩:=sq sc h;rw[ai.eD,V1] at h1;unfold N6 St.win;have e:(SV.one (.sl aD 1 lo len)).er=ao.one (.sl aD 1 lo len):=rfl;rw[e] at h1;rw[h1];cases o with
  |gC τ=>
   obtain⟨fC,rfl,h2⟩:=h2;simp only[<-Fi];exact OE h2
  |ret τ=>
   obtain⟨fC,rfl,h2⟩:=h2;simp only[<-Fi];exact OE h2
  |ext i τ=>
   obtain⟨fC,rfl,h2⟩:=h2;cases h2
 ·cases h
def Iv (k:K) (ts:List Ty) (x:Ty.DL ts):SV:=
 match k with
 |.one=>match Ty.cells ts x with
  |[c]=>.one c
  |_=>.one .cd
 |.agg=>.agg (Ty.cells ts x)
 |.ptr=>.one (.ptr aD 0 0 0)
theorem aeu (k:K) (ts:List Ty) (x:Ty.DL ts):(Iv k ts x).er=F4 (k,Ty.aW ts x):=by
 cases k with
 |one=>
  match ts,x with
  |[],x=>rfl
  |[t],x=>rfl
  |t::u::[],x=>rfl
  |t::u::v::ts,x=>rfl
 |agg=>simp only[Iv,SV.er,F4,Ty.m5]
 |ptr=>rfl
def IF:Nat->(as:ar)->bj as.bi->(Nat->SV)
 |_,[],_=>fun _=>.one .cd
 |k,[a],x=>aQ (fun _=>.one .cd) k (Iv a.1 a.2 x)
 |k,a::b::as,x=>aQ (IF (k+1) (b::as) x.2) k (Iv a.1 a.2 x.1)
theorem afL:∀(k:Nat) (as:ar) (x:bj as.bi),sQ (IF k as x)=wa k (dL as x)
 |k,[],x=>rfl
 |k,[a],x=>by
  have e:(Iv a.1 a.2 x).er=F4 (a.1,Ty.aW a.2 x):=aeu a.1 a.2 x;simp only[IF,dL,wa,yV];rw[e];rfl
 |k,a::b::as,x=>by
  have ih:=afL (k+1) (b::as) x.2;simp only[IF,dL,yV,aeu,ih];rw[wa]
def tN:(as:ar)->bj as.bi->Option (List TD)
 |[],_=>none
 |[a],x=>match a.1.wb with
  |true=>some (Ty.jc a.2 x)
  |false=>none
 |a::b::as,x=>match a.1.wb with
  |true=>some (Ty.jc a.2 x.1)
  |false=>tN (b::as) x.2
theorem adY (k:K) (xs:List C) (ds:List Dv):rf ((k,xs)::ds)=match k.wb with|true=>some xs|false=>rf ds:=by cases k<;>rfl
theorem aaJ (k:K) (ts:List Ty) (as:ar):D7 ((k,ts)::as)=match k.wb with|true=>true|false=>D7 as:=by cases k<;>rfl
theorem Wc:∀(as:ar) (x:bj as.bi),(tN as x).map dC=rf (dL as x)
 |[],_=>rfl
 |[(k,ts)],x=>by
  simp only[tN,dL,adY];cases k.wb with
  |true=>exact congrArg some (Ty.rF ts x)
  |false=>rfl
 |(k,ts)::b::as,x=>by
  simp only[tN,dL,adY];cases k.wb with
  |true=>simp only[zam];rw[Ty.rF]
  |false=>exact Wc (b::as) x.2
theorem agm:∀(as:ar) (x:bj as.bi),(tN as x).isSome=D7 as
 |[],_=>rfl
 |[(k,ts)],x=>by
  simp only[tN,aaJ];cases k.wb<;>rfl
 |(k,ts)::b::as,x=>by
  simp only[tN];rw[aaJ];cases k.wb with
  |true=>rfl
  |false=>exact agm (b::as) x.2
def afN (as:ar) (x:bj as.bi):Nat->Option SB:=fun n=>match Nat.beq n aD with
 |true=>match tN as x with
  |some l=>some (.box (l.map fun y=>.v y.1 y.2))
  |none=>none
 |false=>none
def V2 (as:ar) (x:bj as.bi):ai:={env:=IF 0 as x,h:=afN as x,used:=fun n=>Nat.ble aD n}
theorem atG (as:ar) (x:bj as.bi):(V2 as x).er=Hx (dL as x):=by
 simp only[V2,ai.er,Hx,afL];congr 1;funext n;simp only[dw,afN,q8];cases Nat.beq n aD with
 |false=>rfl
 |true=>
  simp only
  rw[<-Wc];cases tN as x with
  |none=>rfl
  |some l=>simp only[zam,SB.er,OW]
section
variable {ρ:Type}
def OB (h:Nat->Option SB):List SV->(List cE->Option ρ)->Option ρ
 |[],k=>k []
 |v::vs,k=>match v.cells? with
  |some (ag,cs)=>CH h cs fun l=>OB h vs fun ds=>k ((EA ag,l)::ds)
  |none=>none
theorem ags {h:Nat->Option SB}:∀{vs:List SV} {k:List cE->Option ρ} {r:ρ},OB h vs k=some r->∃ds,tF (dw h) (vs.map SV.er)=some (ds.map cE.er)/\k ds=some r
 |[],k,r,hx=>⟨[],rfl,hx⟩
 |v::vs,k,r,hx=>by
  simp only[OB] at hx;split at hx
  ·rename_i ag cs hc;obtain⟨l,h1,h2⟩:=I2 hx;obtain⟨ds,h3,h4⟩:=ags h2;refine⟨_,?_,h4⟩;simp only[zah,tF,SV.m5 hc,h1,h3,cE.er];cases ag<;>rfl
  ·cases hx
def agl:List SV->Option (Nat×Nat×Nat)
 |[v]=>v.sf
 |_=>none
def Wo (h:Nat->Option SB) (vs:List SV) (k:List cE->Option ρ):Option ρ:=
 match agl vs with
 |some (n,kk,off)=>match N9 h n kk off with
  |some l=>match Nat.ble aD n with
   |true=>none
   |false=>k [(.ptr,l)]
  |none=>none
 |none=>OB h vs k
theorem at0 {h:Nat->Option SB} {vs:List SV} {k:List cE->Option ρ} {r:ρ} (hx:Wo h vs k=some r):∃ds,Fc (dw h) (vs.map SV.er)=some (ds.map cE.er)/\k ds=some r:=by
 unfold Wo at hx;split at hx
 ·rename_i n kk off hp;have hv:∃sz,vs=[.one (.ptr n kk sz off)]:=by
   unfold agl at hp;split at hp
   ·obtain⟨sz,rfl⟩:=adX hp;exact⟨sz,rfl⟩
   ·cases hp
  obtain⟨sz,rfl⟩:=hv;split at hx
  ·rename_i l hl;split at hx
   ·cases hx
   ·rename_i hb;refine⟨_,?_,hx⟩;have e:=aex (sz:=sz) hl;have hn:¬aD<=n:=fun kf=>by rw[zau kf] at hb;cases hb
    simp only[zah,za9,Fc,e];rw[if_neg hn];rfl
  ·cases hx
 ·rename_i hp;obtain⟨ds,h1,h2⟩:=ags hx;refine⟨ds,?_,h2⟩;unfold Fc;split
  ·rename_i v0 he;have hv:∃v,vs=[v]/\v0=v.er:=by
    match vs,he with
    |[v],he=>simp at he;exact⟨v,rfl,he.symm⟩
   obtain⟨v,rfl,rfl⟩:=hv;have bJ:v.sf=none:=hp;rw[adW bJ];exact h1
  ·exact h1
def Wa (h:Nat->Option SB) (cur:Option (List TD)) (k:List cE->Option ρ):Option ρ:=
 match cur with
 |none=>k []
 |some xs=>match h aD with
  |some (.box cs)=>dv cs.length xs.length (match z9 cs with
   |some l=>k [(.ptr,l)]
   |none=>none)
  |_=>none
theorem atT {h:Nat->Option SB} {cur:Option (List TD)} {k:List cE->Option ρ} {r:ρ} (hx:Wa h cur k=some r):
  ∃os:List cE,EZ (dw h) (cur.map dC)=some (dC (os.flatMap (·.2)))/\os.length=(match cur.isSome with|true=>1|false=>0)/\k os=some r:=by
 unfold Wa at hx;split at hx
 ·exact⟨[],rfl,rfl,hx⟩
 ·rename_i xs;split at hx
  ·rename_i cs hn;have he:=(bw hx).1;replace hx:=(bw hx).2;split at hx
   ·rename_i l hl;refine⟨[(.ptr,l)],?_,rfl,hx⟩;simp only[zam,EZ,dw,hn,SB.er,zao];rw[if_pos (by rw[he,dC,zao]),IB hl];simp
   ·cases hx
  ·cases hx
end
def OG (σ:ai) (ms:List bZ) (cur:Option (List TD)) (ax:ar):Option (bj ax.bi):=
 yg σ ms fun vs=>Wo σ.h vs fun ds=>Wa σ.h cur fun os=>pI ax (ds++os)
theorem agv {σ:ai} {ms:List bZ} {args:ar} {x:bj args.bi} {ax:ar} {y:bj ax.bi} (h:OG σ ms (tN args x) ax=some y):
  σ.er.Fb ms (dL args x)=some (wH (ax.length - r9 args) (dL ax y)):=by
 unfold OG at h;obtain⟨vs,h1,h2⟩:=Fw h;obtain⟨ds,h3,h4⟩:=at0 h2;obtain⟨os,h5,h6,h7⟩:=atT h4;have h8:=tv h7;have hlen:ax.length=ds.length+os.length:=by
  have:=congrArg List.length h8;rw[A9,zao,zaM] at this;exact this.symm
 have xz:r9 args=os.length:=by
  rw[h6,agm];unfold r9;cases D7 args<;>rfl
 have hk:ax.length - r9 args=ds.length:=by omega
 have y6:Fc σ.er.h (vs.map SV.er)=some (ds.map cE.er):=h3;have Mi:EZ σ.er.h (rf (dL args x))=some (dC (os.flatMap (·.2))):=by rw[<-Wc];exact h5
 simp only[St.Fb,h1,y6,Mi,hk];rw[<-h8,CC,zbJ,zbK]
def qA (N:Nat) (T:List aw) (sc:ca) (ms:List bZ) (args ax:ar) (x:bj args.bi):Option (bj ax.bi):=
 mV N T sc (V2 args x) (fun σ=>OG σ ms (tN args x) ax) (fun _ _=>none) (fun σ=>OG σ ms (tN args x) ax)
theorem as0 {T:List aw} {sc:ca} {ms:List bZ} {args ax:ar} {x:bj args.bi} {y:bj ax.bi} (h:qA aM T sc ms args ax x=some y):
  N3 (df T) sc.er ms (dL args x)=some (wH (ax.length - r9 args) (dL ax y)):=by
 obtain⟨o,h1,h2⟩:=sq sc h;rw[atG] at h1;unfold N3;rw[h1];cases o with
 |gC τ=>
  obtain⟨fC,rfl,h2⟩:=h2;exact agv h2
 |ret τ=>
  obtain⟨fC,rfl,h2⟩:=h2;exact agv h2
 |ext i τ=>
  obtain⟨fC,rfl,h2⟩:=h2;cases h2
def An:ar:=[(.one,[.int .i64]),(.one,[.int .i64])]
def OH (σ:ai) (ms:List bZ):Option (bj (ar.bi An)):=
 yg σ ms fun vs=>match vs with
  |[.one (.sl n sz lo len)]=>dv n aD (match σ.h aD with
   |some (.row _ _ ts xs)=>dv sz ts.length ((dB (0:Int) (ae xs)).af fun _=>some (aS lo,aS (aH lo len)))
   |_=>none)
  |_=>none
theorem agw {σ:ai} {ms:List bZ} {y:bj (ar.bi An)} (h:OH σ ms=some y):∃lo len,σ.er.Fe ms=some (lo,len)/\W5 (dL An y)=some (lo,len):=by
 unfold OH at h;obtain⟨vs,h1,h2⟩:=Fw h;split at h2
 ·rename_i n sz lo len;have he:=(bw h2).1;replace h2:=(bw h2).2;split at h2
  ·rename_i gr mo ts xs gk;have uH:=(bw h2).1;replace h2:=(bw h2).2;rw[fL] at h2;obtain⟨k,hk,h2⟩:=h2;injection h2 with h2;refine⟨lo,len,?_,?_⟩
   ·have bU:σ.er.h aD=some (.row gr mo ts.length (List.map (Ty.aW ts) xs)):=by simp only[ai.er,dw,gk,SB.er,zam]
    unfold St.Fe;rw[h1];simp only[zah,za9,SV.er,SC.er];rw[if_pos he,bU];cases xs with
    |nil=>unfold dB ae at hk;simp at hk
    |cons e es=>simp only[zah];rw[if_pos uH]
   ·subst h2;show some (((lo:Nat):Int).toNat,(((lo+len:Nat):Int) - ((lo:Nat):Int)).toNat)=some (lo,len);congr 2;omega
  ·cases h2
 ·cases h2
def N5 (N:Nat) (T:List aw) (sc:ca) (ms:List bZ) (args:ar) (mu:aU) (x:bj args.bi):Option (bj (ar.bi An)):=
 match wE mu args x with
 |[_]=>mV N T sc (IG mu args x) (fun σ=>OH σ ms) (fun _ _=>none) (fun σ=>OH σ ms)
 |_=>none
theorem as1 {T:List aw} {sc:ca} {ms:List bZ} {args:ar} {mu:aU} {x:bj args.bi} {y:bj (ar.bi An)} (h:N5 aM T sc ms args mu x=some y):
  ∃lo len,N4 (df T) sc.er ms mu (dL args x)=some (lo,len)/\W5 (dL An y)=some (lo,len):=by
 unfold N5 at h;split at h
 ·rename_i p hp;obtain⟨o,h1,h2⟩:=sq sc h;rw[V1] at h1;unfold N4;rw[<-Fi,hp];simp only[zah,za9];rw[h1];cases o with
  |gC τ=>obtain⟨fC,rfl,h2⟩:=h2;exact agw h2
  |ret τ=>obtain⟨fC,rfl,h2⟩:=h2;exact agw h2
  |ext i τ=>obtain⟨fC,rfl,h2⟩:=h2;cases h2
 ·cases h
def Xx (P:Program) (fn:aw):Prop:=(fn.mu.gH=0->eY P fn.id fn.M)/\(fn.mu.gH=1->vo P fn.id fn.mu fn.MM)/\(fn.mu.gH=2->nK P fn.id fn.MV)/\(fn.mu.gH=3->Dg P fn.id fn.mu.tl fn.MW)/\(fn.mu.gH=4->AJ P fn.id fn.mu.lM fn.MX)/\cz P fn.id=true
def aC (P:Program) (T:List aw):Prop:=∀fn∈T,Xx P fn
theorem aC.nil {P:Program}:aC P []:=fun _ h=>by cases h
theorem aC.Gg {P:Program} {fn:aw} {T:List aw} (h:Xx P fn) (hT:aC P T):aC P (fn::T):=by
 intro g hg;cases hg with
 |head=>exact h
 |tail _ hg=>exact hT g hg
theorem aC.cons {P:Program} {f:FuncId} {args ax:ar} {F:bj args.bi->Option (bj ax.bi)} {T:List aw} (h:eY P f (aw.M ⟨f,args,[],ax,F⟩)/\cz P f=true) (hT:aC P T):aC P (⟨f,args,[],ax,F⟩::T):=
 aC.Gg ⟨fun _=>h.1,fun hm=>(by cases hm),fun hm=>(by cases hm),fun hm=>(by cases hm),fun hm=>(by cases hm),h.2⟩ hT
theorem aC.w6 {P:Program} {f:FuncId} {args:ar} {s:List (Option Mode)} {mu:aU} {ax:ar} {F:bj args.bi->Option (bj ax.bi)} {T:List aw} (h:vo P f (s::mu) (aw.MM ⟨f,args,s::mu,ax,F⟩)/\cz P f=true) (hT:aC P T)
  (hk:aU.gH (s::mu)=1:=by rfl):aC P (⟨f,args,s::mu,ax,F⟩::T):=
 aC.Gg ⟨fun hm=>absurd (hk.symm.trans hm) (by decide),fun _=>h.1,fun hm=>absurd (hk.symm.trans hm) (by decide),fun hm=>absurd (hk.symm.trans hm) (by decide),fun hm=>absurd (hk.symm.trans hm) (by decide),h.2⟩ hT
theorem aC.lx {P:Program} {f:FuncId} {args:ar} {ax:ar} {F:bj args.bi->Option (bj ax.bi)} {T:List aw} (h:nK P f (aw.MV ⟨f,args,[[some .aL]],ax,F⟩)/\cz P f=true) (hT:aC P T):aC P (⟨f,args,[[some .aL]],ax,F⟩::T):=
 aC.Gg ⟨fun hm=>(by cases hm),fun hm=>(by cases hm),fun _=>h.1,fun hm=>(by cases hm),fun hm=>(by cases hm),h.2⟩ hT
theorem aC.Yw {P:Program} {f:FuncId} {args:ar} {mu:aU} {ax:ar} {F:bj args.bi->Option (bj ax.bi)} {T:List aw} (h:Dg P f mu (aw.MW ⟨f,args,[some .aL,some .aL]::mu,ax,F⟩)/\cz P f=true) (hT:aC P T):aC P (⟨f,args,[some .aL,some .aL]::mu,ax,F⟩::T):=
 aC.Gg ⟨fun hm=>(by cases hm),fun hm=>(by cases hm),fun hm=>(by cases hm),fun _=>h.1,fun hm=>(by cases hm),h.2⟩ hT
theorem aC.Qw {P:Program} {f:FuncId} {args:ar} {mu:aU} {ax:ar} {F:bj args.bi->Option (bj ax.bi)} {T:List aw} (h:AJ P f (aU.lM ([some .aL,some .aL,some .aL]::mu)) (aw.MX ⟨f,args,[some .aL,some .aL,some .aL]::mu,ax,F⟩)/\cz P f=true) (hT:aC P T):aC P (⟨f,args,[some .aL,some .aL,some .aL]::mu,ax,F⟩::T):=
 aC.Gg ⟨fun hm=>(by cases hm),fun hm=>(by cases hm),fun hm=>(by cases hm),fun hm=>(by cases hm),fun _=>h.1,h.2⟩ hT
theorem ON:∀{T:List aw} {f:FuncId} {M:List Dv->Option (List Dv)},aZ.find (df T).pure f=some M->∃fn∈T,fn.id=f/\M=fn.M/\fn.mu.gH=0
 |[],f,M,h=>by simp[df,aZ.find] at h
 |g::l,f,M,h=>by
  simp only[df,zay] at h;by_cases hg:g.mu.gH=0
  ·simp only[hg,aZ.find] at h;split at h
   ·rename_i e;injection h with h;exact⟨g,by simp,e.symm,h.symm,hg⟩
   ·obtain⟨fn,h1,h2,h3⟩:=ON (T:=l) h;exact⟨fn,by simp[h1],h2,h3⟩
  ·split at h
   ·obtain⟨fn,h1,h2,h3⟩:=ON (T:=l) h;exact⟨fn,by simp[h1],h2,h3⟩
   ·rename_i z hz;split at hz
    ·rename_i h0;exact absurd h0 hg
    ·cases hz
theorem WI:∀{T:List aw} {f:FuncId} {sig:aU} {M:List Dv->Option (List Dv×List C)},aZ.ph (df T).wi f=some (sig,M)->∃fn∈T,fn.id=f/\sig=fn.mu/\M=fn.MM/\fn.mu.gH=1
 |[],f,sig,M,h=>by simp[df,aZ.ph] at h
 |g::l,f,sig,M,h=>by
  simp only[df,zay] at h;by_cases hg:g.mu.gH=1
  ·simp only[hg,aZ.ph] at h;split at h
   ·rename_i e;injection h with h;injection h with ha hb;exact⟨g,by simp,e.symm,ha.symm,hb.symm,hg⟩
   ·obtain⟨fn,h1,h2,h3⟩:=WI (T:=l) h;exact⟨fn,by simp[h1],h2,h3⟩
  ·split at h
   ·obtain⟨fn,h1,h2,h3⟩:=WI (T:=l) h;exact⟨fn,by simp[h1],h2,h3⟩
   ·rename_i z hz;split at hz
    ·rename_i h0;exact absurd h0 hg
    ·cases hz
theorem WJ:∀{T:List aw} {f:FuncId} {M:List Dv->Option (List Dv×List C)},aZ.nc (df T).vs f=some M->∃fn∈T,fn.id=f/\M=fn.MV/\fn.mu.gH=2
 |[],f,M,h=>by simp[df,aZ.nc] at h
 |g::l,f,M,h=>by
  simp only[df,zay] at h;by_cases hg:g.mu.gH=2
  ·simp only[hg,aZ.nc] at h;split at h
   ·rename_i e;injection h with h;exact⟨g,by simp,e.symm,h.symm,hg⟩
   ·obtain⟨fn,h1,h2,h3⟩:=WJ (T:=l) h;exact⟨fn,by simp[h1],h2,h3⟩
  ·split at h
   ·obtain⟨fn,h1,h2,h3⟩:=WJ (T:=l) h;exact⟨fn,by simp[h1],h2,h3⟩
   ·rename_i z hz;split at hz
    ·rename_i h0;exact absurd h0 hg
    ·cases hz
theorem WK:∀{T:List aw} {f:FuncId} {sig:aU} {M:List Dv->Option (Nat×Nat)},aZ.uz (df T).ws f=some (sig,M)->∃fn∈T,fn.id=f/\sig=fn.mu.tl/\M=fn.MW/\fn.mu.gH=3
 |[],f,sig,M,h=>by simp[df,aZ.uz] at h
 |g::l,f,sig,M,h=>by
  simp only[df,zay] at h;by_cases hg:g.mu.gH=3
  ·simp only[hg,aZ.uz] at h;split at h
   ·rename_i e;injection h with h;injection h with ha hb;exact⟨g,by simp,e.symm,ha.symm,hb.symm,hg⟩
   ·obtain⟨fn,h1,h2,h3⟩:=WK (T:=l) h;exact⟨fn,by simp[h1],h2,h3⟩
  ·split at h
   ·obtain⟨fn,h1,h2,h3⟩:=WK (T:=l) h;exact⟨fn,by simp[h1],h2,h3⟩
   ·rename_i z hz;split at hz
    ·rename_i h0;exact absurd h0 hg
    ·cases hz
theorem WL:∀{T:List aw} {f:FuncId} {sig:Nat} {M:List Dv->Option (List Dv×List C)},aZ.uA (df T).xs f=some (sig,M)->∃fn∈T,fn.id=f/\sig=fn.mu.lM/\M=fn.MX/\fn.mu.gH=4
 |[],f,sig,M,h=>by simp[df,aZ.uA] at h
 |g::l,f,sig,M,h=>by
  simp only[df,zay] at h;by_cases hg:g.mu.gH=4
  ·simp only[hg,aZ.uA] at h;split at h
   ·rename_i e;injection h with h;injection h with ha hb;exact⟨g,by simp,e.symm,ha.symm,hb.symm,hg⟩
   ·obtain⟨fn,h1,h2,h3⟩:=WL (T:=l) h;exact⟨fn,by simp[h1],h2,h3⟩
  ·split at h
   ·obtain⟨fn,h1,h2,h3⟩:=WL (T:=l) h;exact⟨fn,by simp[h1],h2,h3⟩
   ·rename_i z hz;split at hz
    ·rename_i h0;exact absurd h0 hg
    ·cases hz
theorem aC.tok {P:Program} {T:List aw} (hT:aC P T):o6 P (df T):=by
 refine⟨fun g M hM=>?_,fun g sig M hM=>?_,fun g M hM=>?_,⟨fun g sig M hM=>?_,fun g sig M hM=>?_⟩,fun g M hM=>?_⟩
 ·obtain⟨uB,h1,h2,h3,h4⟩:=ON hM;subst h2 h3;exact(hT uB h1).1 h4
 ·obtain⟨uB,h1,h2,h3,h4,h5⟩:=WI hM;subst h2 h3 h4;exact(hT uB h1).2.1 h5
 ·obtain⟨uB,h1,h2,h3,h4⟩:=WJ hM;subst h2 h3;exact(hT uB h1).2.2.1 h4
 ·obtain⟨uB,h1,h2,h3,h4,h5⟩:=WK hM;subst h2 h3 h4;exact(hT uB h1).2.2.2.1 h5
 ·obtain⟨uB,h1,h2,h3,h4,h5⟩:=WL hM;subst h2 h3 h4;exact(hT uB h1).2.2.2.2.1 h5
 ·obtain⟨uB,h1,h2,h3,h4⟩:=ON hM;subst h2;exact(hT uB h1).2.2.2.2.2
def c6 (P:Program) (f:FuncId) (mc:kJ) (ms:List bZ) (n:Nat):Bool:=
 match P.funcs[f]? with
 |some fn=>match fn.body with
  |some c=>kz P fn.ntmps c mc&&oC P fn.results.toList ms&&decide (n<=fn.ntmps)&&(fn.name != "runtime.NumGoroutine")
  |none=>false
 |none=>false
theorem Gd {P:Program} {f:FuncId} {mc:kJ} {ms:List bZ} {n:Nat} (h:c6 P f mc ms n=true):cz P f=true:=by
 unfold c6 at h;unfold cz;split at h
 ·rename_i fn hf;split at h
  ·rename_i c hb;simp only[zac] at h;simp[hf,hb,h.2]
  ·cases h
 ·cases h
theorem fO {P:Program} {T:List aw} (hT:aC P T) (hm:P.follows .mixedOrders=true) {f:FuncId} {sc:ca} {ms:List bZ} {args ax:ar} (hc:c6 P f sc.er ms args.length=true)
  (F:bj args.bi->Option (bj ax.bi)) (hF:∀x y,F x=some y->fB aM T sc ms args ax x=some y):eY P f (aw.M ⟨f,args,[],ax,F⟩)/\cz P f=true:=by
 refine⟨?_,Gd hc⟩;unfold c6 at hc;split at hc
 ·rename_i fn hf;split at hc
  ·rename_i c hb;simp only[zac,decide_eq_true_eq] at hc;refine ash (T:=df T) hT.tok hm hf hb hc.1.1.1 hc.1.1.2 fun ds rs hM=>?_;obtain⟨x,y,h1,h2,h3⟩:=aw.FU hM;subst h1 h3;exact⟨by rw[A9];exact hc.1.2,asZ (hF x y h2)⟩
  ·cases hc
 ·cases hc
theorem H5 {P:Program} {T:List aw} (hT:aC P T) (hm:P.follows .mixedOrders=true) {f:FuncId} {sc:ca} {ms:List bZ} {args:ar} {mu:aU} {ax:ar} (hc:c6 P f sc.er ms args.length=true)
  (F:bj args.bi->Option (bj ax.bi)) (hF:∀x y,F x=some y->Co aM T sc ms args mu ax x=some y):vo P f mu (aw.MM ⟨f,args,mu,ax,F⟩)/\cz P f=true:=by
 refine⟨?_,Gd hc⟩;unfold c6 at hc;split at hc
 ·rename_i fn hf;split at hc
  ·rename_i c hb;simp only[zac,decide_eq_true_eq] at hc;refine apK (T:=df T) hT.tok hm hf hb hc.1.1.1 hc.1.1.2 fun ds rs dK hM=>?_;unfold aw.MM at hM;rw[zaB] at hM;obtain⟨tJ,h0,Bg⟩:=hM;obtain⟨x,y,h1,h2,h3⟩:=aw.FU h0;subst h1 h3;refine⟨by rw[A9];exact hc.1.2,?_⟩;rw[<-Bg];exact asY (hF x y h2)
  ·cases hc
 ·cases hc
abbrev iA:K×List Ty:=(.one,[.int .i64])
theorem auX {P:Program} {T:List aw} (hT:aC P T) (hm:P.follows .mixedOrders=true) {f:FuncId} {sc:ca} {ms:List bZ} {b:K×List Ty} {args:ar} {mu:aU} {ax:ar} (hc:c6 P f sc.er ms (b::args).length=true)
  (F:bj (ar.bi (iA::iA::b::args))->Option (bj ax.bi)) (hF:∀x y,F x=some y->Is aM T sc ms mu.lM (b::args) ax x.1 x.2.1 x.2.2=some y):AJ P f mu.lM (aw.MX ⟨f,iA::iA::b::args,mu,ax,F⟩)/\cz P f=true:=by
 refine⟨?_,Gd hc⟩;unfold c6 at hc;split at hc
 ·rename_i fn hf;split at hc
  ·rename_i c hb;simp only[zac,decide_eq_true_eq] at hc;refine auW (T:=df T) hT.tok hm hf hb hc.1.1.1 hc.1.1.2 fun lo len ds rs dK hM=>?_;unfold aw.MX at hM;rw[zaB] at hM;obtain⟨tJ,h0,Bg⟩:=hM;obtain⟨x,y,h1,h2,h3⟩:=aw.FU h0;subst h3;obtain⟨xa,xb,xs⟩:=x;have h1:dI lo::dI (lo+len)::ds=((.one,[.int .i64 xa]):Dv)::((.one,[.int .i64 xb]):Dv)::dL (b::args) xs:=h1;injection h1 with g1 g2;injection g2 with g2 g3;have ea:xa=((lo:Nat):Int):=by
    unfold dI at g1;injection g1 with _ g1;injection g1 with g1 _;injection g1 with _ g1;exact g1.symm
   have eb:xb=((lo+len:Nat):Int):=by
    unfold dI at g2;injection g2 with _ g2;injection g2 with g2 _;injection g2 with _ g2;exact g2.symm
   subst ea eb g3;refine⟨by rw[A9];exact hc.1.2,?_⟩;rw[<-Bg];exact as2 (hF _ y h2)
  ·cases hc
 ·cases hc
theorem sy {P:Program} {T:List aw} (hT:aC P T) (hm:P.follows .mixedOrders=true) {f:FuncId} {sc:ca} {ms:List bZ} {args ax:ar} (hc:c6 P f sc.er ms args.length=true)
  (F:bj args.bi->Option (bj ax.bi)) (hF:∀x y,F x=some y->qA aM T sc ms args ax x=some y):nK P f (aw.MV ⟨f,args,[[some .aL]],ax,F⟩)/\cz P f=true:=by
 refine⟨?_,Gd hc⟩;unfold c6 at hc;split at hc
 ·rename_i fn hf;split at hc
  ·rename_i c hb;simp only[zac,decide_eq_true_eq] at hc;refine auK (T:=df T) hT.tok hm hf hb hc.1.1.1 hc.1.1.2 fun ds rs out hM=>?_;unfold aw.MV at hM;rw[zaB] at hM;obtain⟨tJ,h0,Bg⟩:=hM;obtain⟨x,y,h1,h2,h3⟩:=aw.FU h0;subst h1 h3;refine⟨by rw[A9];exact hc.1.2,?_⟩;rw[<-Bg];exact as0 (hF x y h2)
  ·cases hc
 ·cases hc
theorem auO {P:Program} {T:List aw} (hT:aC P T) (hm:P.follows .mixedOrders=true) {f:FuncId} {sc:ca} {ms:List bZ} {args:ar} {mu:aU} (hc:c6 P f sc.er ms args.length=true)
  (MD:sj sc.er=true) (F:bj args.bi->Option (bj (ar.bi An))) (hF:∀x y,F x=some y->N5 aM T sc ms args mu x=some y):Dg P f mu (aw.MW ⟨f,args,[some .aL,some .aL]::mu,An,F⟩)/\cz P f=true:=by
 refine⟨?_,Gd hc⟩;unfold c6 at hc;split at hc
 ·rename_i fn hf;split at hc
  ·rename_i c hb;simp only[zac,decide_eq_true_eq] at hc;refine auN (T:=df T) hT.tok hm hf hb hc.1.1.1 hc.1.1.2 MD fun ds lo len hM=>?_;unfold aw.MW at hM;rw[Option.bind_eq_some_iff] at hM;obtain⟨tJ,h0,Bg⟩:=hM;obtain⟨x,y,h1,h2,h3⟩:=aw.FU h0;subst h1 h3;obtain⟨Np,Nl,k1,k2⟩:=as1 (hF x y h2);have:(Np,Nl)=(lo,len):=by
    have:=k2.symm.trans Bg;injection this
   injection this with g1 g2;subst g1 g2;exact⟨by rw[A9];exact hc.1.2,k1⟩
  ·cases hc
 ·cases hc
theorem fq {α:Type} (xs:List α) (i:Nat):di xs (i:Int)=xs[i]? :=by simp[di]
theorem FM {n:Int} (h1: -9223372036854775808<=n) (h2:n<=9223372036854775807):IntKind.wrap .i64 n=n:=by rw[IntKind.wrap_i64];omega
theorem fU {a b:Int} (h1: -9223372036854775808<=a+b) (h2:a+b<=9223372036854775807):br .i64 a b=a+b:=FM h1 h2
theorem su {a b:Int} (h1: -9223372036854775808<=a - b) (h2:a - b<=9223372036854775807):lL .i64 a b=a - b:=FM h1 h2
theorem aB {α β:Type} (x:α) (f:α->Option β):(some x).af f=f x:=rfl
theorem jW {X ρ:Type} (x:X) (k:X->Option ρ):cm (some (.inl x)) k=k x:=rfl
theorem aby {X ρ:Type} (x:ρ) (k:X->Option ρ):cm (some (.inr x):Option (X⊕ρ)) k=some x:=rfl
theorem bS {α:Type} {b:Bool} (h:b=true) (x y:α):aI b x y=x:=by rw[h];rfl
theorem bN {α:Type} {b:Bool} (h:b=false) (x y:α):aI b x y=y:=by rw[h];rfl
theorem nl {α:Type} (l:List α):aS (ae l)=(l.length:Int):=rfl
theorem eB {a b:Int} (h:a<b):cL a b=true:=decide_eq_true h
theorem d8 {a b:Int} (h:b<=a):cL a b=false:=decide_eq_false (Int.not_lt.2 h)
theorem zG {a b:Int} (h:a<=b):iz a b=true:=decide_eq_true h
theorem HS {a b:Int} (h:b<a):iz a b=false:=decide_eq_false (Int.not_le.2 h)
theorem A8 {a b:Int} (h:a=b):c7 a b=true:=by simp[c7,h]
theorem xf {a b:Int} (h:a≠b):c7 a b=false:=by simp[c7,h]
theorem NG {a b:Int} (h:a≠b):mn a b=true:=by simp[mn,h]
theorem H6 {a b:Int} (h:a=b):mn a b=false:=by simp[mn,h]
theorem aq0 {p:Prop} [Decidable p] (h:¬p):fw (decide p)=true:=by simp[fw,h]
theorem aq1 {p:Prop} [Decidable p] (h:p):fw (decide p)=false:=by simp[fw,h]
theorem bE (n:Nat):bk 0 n n=some ():=by simp[bk]
theorem mr {α:Type} (xs:List α):fg xs (ae xs)=some xs:=by simp[fg,ae]
theorem d6 {α:Type} (xs:List α):cM xs 0 (ae xs)=some xs:=by simp[cM,ae]
theorem uU {n by_:Nat} (h:n*by_<=fe):km (aS n) (aS n) by_=some n:=by simp[km,aS,h]
theorem rD {i n:Nat} (h:i<n):dB (i:Int) n=some i:=by simp[dB];omega
theorem eP {n:Nat} (h:n<18446744073709551616):n<aM:=h
theorem drop_cons {α:Type} {xs:List α} {i:Nat} {x:α} (h:xs[i]? =some x):xs.drop i=x::xs.drop (i+1):=by
 obtain⟨h1,h2⟩:=zag.1 h;rw[zaH h1,h2]
theorem abZ {X Y:Type} {f:X->Option (X⊕Y)} (st:Nat->X) {r:Y}:∀(n i:Nat),(∀j,i<=j->j<i+n->f (st j)=some (.inl (st (j+1))))->f (st (i+n))=some (.inr r)->∀N,n<N->cH N f (st i)=some r
 |0,i,_,h2,N+1,_=>by
  have h2:f (st i)=some (.inr r):=h2;simp only[cH,h2]
 |n+1,i,h1,h2,N+1,hN=>by
  simp only[cH,h1 i (zae i) (by omega)];exact abZ st n (i+1) (fun j h3 h4=>h1 j (by omega) (by omega)) (by rw[show i+1+n=i+(n+1) by omega];exact h2) N (by omega)
 |_,_,_,_,0,h=>by omega
theorem fS {X Y:Type} {f:X->Option (X⊕Y)} (st:Nat->X) {r:Y} (n:Nat) (h1:∀j,j<n->f (st j)=some (.inl (st (j+1)))) (h2:f (st n)=some (.inr r)) {x0:X} (h0:x0=st 0) {N:Nat} (hN:n<N):cH N f x0=some r:=by
 subst h0;exact abZ st n 0 (fun j _ h=>h1 j (by omega)) (by rw[zav];exact h2) N hN
theorem abX {X Y α:Type} {f:X->Option (X⊕Y)} (es:List α) (mk:Nat->X) (p:α->Bool) (ug gx:Y)
  (h1:∀i a,es[i]? =some a->p a=true->f (mk i)=some (.inl (mk (i+1)))) (h2:∀i a,es[i]? =some a->p a=false->f (mk i)=some (.inr ug)) (h3:f (mk es.length)=some (.inr gx)) {x0:X} (h0:x0=mk 0) {N:Nat} (hN:es.length<N):
  cH N f x0=some (if es.all p=true then gx else ug):=by
 subst h0;have cI:∀(k:Nat) (i:Nat),i+k=es.length->∀N,k<N->cH N f (mk i)=some (if(es.drop i).all p=true then gx else ug):=by
  intro k;induction k with
  |zero=>
   intro i hi N hN;obtain⟨N,rfl⟩:∃M,N=M+1:=⟨N - 1,by omega⟩;have:i=es.length:=by omega
   subst this;simp only[cH,h3,zbx,List.all_nil,if_true]
  |succ k ih=>
   intro i hi N hN;obtain⟨N,rfl⟩:∃M,N=M+1:=⟨N - 1,by omega⟩;obtain⟨a,ha⟩:∃a,es[i]? =some a:=⟨_,zaa (by omega)⟩;rw[drop_cons ha];cases hp:p a with
   |true=>
    simp only[cH,h1 i a ha hp,za5,hp,zaz];exact ih (i+1) (by omega) N (by omega)
   |false=>simp only[cH,h2 i a ha hp,za5,hp,zbL,Bool.false_eq_true,if_false]
 exact cI es.length 0 (by omega) N hN
def ia {S α:Type} (step:Nat->S->α->Option S):Nat->S->List α->Option S
 |_,s,[]=>some s
 |i,s,a::as=>match step i s a with
  |some s'=>ia step (i+1) s' as
  |none=>none
theorem abY {X Y α S:Type} {f:X->Option (X⊕Y)} (es:List α) (mk:S->Nat->X) (I:Nat->S->Prop) (step:Nat->S->α->Option S) (ug:Y) (gx:S->Y)
  (h1:∀i s a s',es[i]? =some a->I i s->step i s a=some s'->f (mk s i)=some (.inl (mk s' (i+1)))/\I (i+1) s')
  (h2:∀i s a,es[i]? =some a->I i s->step i s a=none->f (mk s i)=some (.inr ug))
  (h3:∀s,I es.length s->f (mk s es.length)=some (.inr (gx s))) {s:S} (h0:I 0 s) {x0:X} (hx:x0=mk s 0) {N:Nat} (hN:es.length<N):
  cH N f x0=some (match ia step 0 s es with|some s'=>gx s'|none=>ug):=by
 subst hx;have cI:∀(k:Nat) (i:Nat) (s:S),I i s->i+k=es.length->∀N,k<N->cH N f (mk s i)=some (match ia step i s (es.drop i) with|some s'=>gx s'|none=>ug):=by
  intro k;induction k with
  |zero=>
   intro i s hs hi N hN;obtain⟨N,rfl⟩:∃M,N=M+1:=⟨N - 1,by omega⟩;have:i=es.length:=by omega
   subst this;simp only[cH,h3 s hs,zbx,ia]
  |succ k ih=>
   intro i s hs hi N hN;obtain⟨N,rfl⟩:∃M,N=M+1:=⟨N - 1,by omega⟩;obtain⟨a,ha⟩:∃a,es[i]? =some a:=⟨_,zaa (by omega)⟩;rw[drop_cons ha];cases hp:step i s a with
   |some s'=>
    obtain⟨h4,h5⟩:=h1 i s a s' ha hs hp;simp only[cH,h4,ia,hp];exact ih (i+1) s' h5 (by omega) N (by omega)
   |none=>simp only[cH,h2 i s a ha hs hp,ia,hp]
 exact cI es.length 0 s h0 (by omega) N hN
def DX {S α:Type} (step:Nat->S->α->S):Nat->S->List α->S
 |_,s,[]=>s
 |i,s,a::as=>DX step (i+1) (step i s a) as
theorem zH {α:Type} {es:List α} {i:Nat} {a:α} (h:es[i]? =some a):cL (i:Int) (aS (ae es))=true:=by
 have:=(zag.1 h).1;exact eB (by have:=nl es;omega)
theorem xV {α:Type} (es:List α):cL ((es.length:Nat):Int) (aS (ae es))=false:=d8 (by have:=nl es;omega)
theorem H7 {α:Type} {es:List α} {i:Nat} {a:α} (h:es[i]? =some a) (hl:es.length<=9223372036854775807):br .i64 (i:Int) 1=((i+1:Nat):Int):=by
 have:=(zag.1 h).1;rw[fU (by omega) (by omega)];omega
theorem HV {α:Type} {es:List α} {i:Nat} {a:α} (h:es[i]? =some a):i<es.length:=(zag.1 h).1
theorem W9 (n:Int) (avg:0<=n) (avh:n<2^63):IntKind.i64.wrap n=n:=by rw[IntKind.wrap_i64];omega
theorem ahG {a b:Nat} (ha:a<2^63) (hb:b<2^63):qI .i64 (a:Int) (b:Int)=((a&&&b:Nat):Int):=(bits_nat .i64 63 (by decide) W9 a b ha hb).1
theorem atF {k:Nat} (hk:k<63):Ct .i64 1 (k:Int)=some ((2^k:Nat):Int):=by
 unfold Ct;rw[if_neg (by omega)];congr 1;rw[zab,show min k (IntKind.bits .i64)=k from Nat.min_eq_left (by simp[IntKind.bits];omega),za6]
 have:(2:Int)^k=((2^k:Nat):Int):=by norm_cast
 rw[this];refine W9 _ (Int.natCast_nonneg _) ?_;have:=Nat.pow_lt_pow_right (a:=2) (by decide) hk
 exact_mod_cast this
theorem iC {z:Int} (h:0<=z):∃n:Nat,z=(n:Int):=⟨z.toNat,by omega⟩
theorem Nm {α:Type} (l r:List α):ae (fj l r)=aH (ae l) (ae r):=by simp[ae,fj,aH]
theorem Nn {α:Type} (n:Nat) (x:α):ae (dk n x)=n:=by simp[ae,dk]
theorem rO {n k:Nat} (h:n*k<=fe):mG n k=some ():=if_pos h
theorem ja (k:Nat):aH 0 k=k:=by simp[aH]
theorem O3 {α:Type} (x:α):cM [x] 0 1=some [x]:=rfl
theorem TL (a b:Int):iB a b=min a b:=by unfold iB;split<;>omega
theorem aqP (a b:Int):mn a b= !decide (a=b):=by by_cases h:a=b<;>simp[mn,h]
theorem abO {n:Nat}:∀{l:List Nat},n∈l->n<=l.sum
 |[],h=>by cases h
 |a::l,h=>by
  rw[List.sum_cons];rcases List.mem_cons.1 h with rfl|h
  ·omega
  ·have:=abO h;omega
def kOk (k:Int):Prop:=0<=k/\k<=1048576
instance (k:Int):Decidable (kOk k):=inferInstanceAs (Decidable (0<=k/\k<=1048576))
theorem z6 {a b:Nat} (h:a=b):mU a b=some ():=if_pos h
theorem vH {n m:Nat} (h:n=m):bk 0 n m=some ():=by subst h;exact bE n
theorem ald {α:Type} {l:List α} {i:Nat} {a b:α} (h:l[i]? =some a):(l.set i b)[i]? =some b:=za8 (HV h)
theorem aaE {α:Type} {l:List α} {i:Nat} {a b:α} (h:l[i]? =some a):cW (bK l i b) i=some b:=ald h
theorem aty {α:Type} (l:List α) (i:Nat) (a b:α):bK (bK l i a) i b=bK l i b:=by simp[bK,List.set_set]
def auj (l:aa):Nat:=l.length
def tT (x:Int×Int×Int×aa):Nat:=match x with|(a0,a1,a2,a3)=>auj a3
def yi (l:List (Int×Int×Int×aa)):Nat:=l.length+(l.map tT).sum
def tS (x:Int×(List (Int×Int×Int×aa))):Nat:=match x with|(a0,a1)=>yi a1
theorem auk {l:List (Int×Int×Int×aa)} (h:yi l<=1048576):l.length<=1048576/\∀e∈l,tT e<=1048576:=by
 unfold yi at h;refine⟨by omega,fun e he=>?_⟩;have:=abO (List.mem_map_of_mem (f:=tT) he);omega
def aX (r c:Nat) (M:Nat->Nat->Int):aa:=(List.range (r*c)).map fun n=>M (n/c) (n%c)
def dD (c:Nat) (l:aa):Nat->Nat->Int:=fun i j=>l.getD (i*c+j) 0
def tY (M:Nat->Nat->Int) (i j:Nat) (x:Int):Nat->Nat->Int:=fun a b=>if a=i/\b=j then x else M a b
theorem uO {r c i j:Nat} (hi:i<r) (hj:j<c):i*c+j<r*c:=by
 have:(i+1)*c<=r*c:=Nat.mul_le_mul_right _ hi;rw[Nat.add_mul] at this;omega
theorem qX {c i j:Nat} (hj:j<c):(i*c+j)/c=i:=by
 rw[zar,Nat.mul_add_div (by omega),zby hj,zba]
theorem qY {c i j:Nat} (hj:j<c):(i*c+j)%c=j:=by
 rw[zar,Nat.mul_add_mod,zat hj]
theorem uE (r c:Nat) (M:Nat->Nat->Int):(aX r c M).length=r*c:=by simp[aX]
theorem Md {r c i j:Nat} (M:Nat->Nat->Int) (hi:i<r) (hj:j<c):(aX r c M)[i*c+j]? =some (M i j):=by
 unfold aX;rw[zaj,zaA (uO hi hj)];simp[qX hj,qY hj]
theorem uD {r c:Nat} {M M':Nat->Nat->Int} (h:∀i,i<r->∀j,j<c->M i j=M' i j):aX r c M=aX r c M':=by
 unfold aX;refine zaK fun n hn=>?_;have hn:=zaI.1 hn;have hc:0<c:=by
  rcases zaD c with h|h
  ·subst h;simp at hn
  ·exact h
 exact h _ ((zbc hc).2 hn) _ (zbr _ hc)
theorem ak9 {r c i j:Nat} (M:Nat->Nat->Int) (hj:j<c) (x:Int):(aX r c M).set (i*c+j) x=aX r c (tY M i j x):=by
 apply zal;intro n;rw[zbs,uE];unfold aX;simp only[zaj];by_cases hn:n<r*c
 ·rw[zaA hn];have hc:0<c:=by omega
  by_cases he:i*c+j=n
  ·rw[if_pos he,if_pos (by omega)];subst he;simp[tY,qX hj,qY hj]
  ·rw[if_neg he];simp only[zam,tY];rw[if_neg];rintro⟨h1,h2⟩;apply he;rw[<-h1,<-h2];have:=zaW n c;rw[zar] at this;exact this
 ·rw[zad (by simp;omega)];by_cases he:i*c+j=n
  ·rw[if_pos he,if_neg (by omega)];rfl
  ·rw[if_neg he];rfl
theorem Me {r c:Nat} {l:aa} (h:l.length=r*c):aX r c (dD c l)=l:=by
 apply zal;intro n;unfold aX;simp only[zaj];by_cases hn:n<r*c
 ·rw[zaA hn,zaa (by omega)];simp only[zam,dD];have:=zaW n c;rw[zar] at this;rw[this,zaf,zaa (by omega)];rfl
 ·rw[zad (by simp;omega),zad (by omega)];rfl
theorem wm {r c i j:Nat} (M:Nat->Nat->Int) (hi:i<r) (hj:j<c):dD c (aX r c M) i j=M i j:=by
 unfold dD;rw[zaf,Md M hi hj];rfl
theorem ak8 (r c:Nat) (x:Int):dk (r*c) x=aX r c (fun _ _=>x):=by
 unfold aX dk;rw[zbC,za2]
theorem MQ {i c j:Nat} (hi:i<=1048576) (hc:c<=1048576) (hj:j<=1048576):br .i64 (du .i64 (i:Int) (c:Int)) (j:Int)=((i*c+j:Nat):Int):=by
 have h1:i*c<=1048576*1048576:=zak hi hc;have e:(i:Int)*(c:Int)=((i*c:Nat):Int):=by norm_cast
 rw[du,FM (by omega) (by omega),fU (by omega) (by omega),e];omega
theorem ES {i c:Nat} (hi:i<=1048576) (hc:c<=1048576):du .i64 (i:Int) (c:Int)=((i*c:Nat):Int):=by
 have h1:i*c<=1048576*1048576:=zak hi hc;have e:(i:Int)*(c:Int)=((i*c:Nat):Int):=by norm_cast
 rw[du,FM (by omega) (by omega),e]
theorem aaD {r c i j:Nat} (M:Nat->Nat->Int) (hi:i<r) (hj:j<c):di (aX r c M) ((i*c+j:Nat):Int)=some (M i j):=by rw[fq,Md M hi hj]
theorem aim {r c i j:Nat} (M:Nat->Nat->Int) (hi:i<r) (hj:j<c):dB ((i*c+j:Nat):Int) (ae (aX r c M))=some (i*c+j):=rD (by unfold ae;rw[uE];exact uO hi hj)
theorem alb {r c i j:Nat} (M:Nat->Nat->Int) (hi:i<r) (hj:j<c):cW (aX r c M) (i*c+j)=some (M i j):=Md M hi hj
theorem atx {r c i j:Nat} (M:Nat->Nat->Int) (hj:j<c) (x:Int):bK (aX r c M) (i*c+j) x=aX r c (tY M i j x):=ak9 M hj x
theorem HT (r c:Nat) (M:Nat->Nat->Int):ae (aX r c M)=r*c:=uE r c M
theorem Rh (r c:Nat) (M M':Nat->Nat->Int):bk 0 (ae (aX r c M)) (ae (aX r c M'))=some ():=by rw[HT,HT];exact bE _
theorem atb (r c:Nat) (M M':Nat->Nat->Int):mU (ae (aX r c M)) (ae (aX r c M'))=some ():=by rw[HT,HT];exact z6 rfl
theorem Ur {a p:Int} (ha:0<=a) (hp:0<p):iM a p=some (a%p):=by
 unfold iM;rw[if_neg (by omega),zaX ha]
theorem tq {i n:Nat} (h:i<n):cL (i:Int) (n:Int)=true:=eB (by omega)
theorem r6 {i n:Nat} (h:n<=i):cL (i:Int) (n:Int)=false:=d8 (by omega)
theorem iP {i:Nat} (h:i<=1048577):br .i64 (i:Int) 1=((i+1:Nat):Int):=by rw[fU (by omega) (by omega)];omega
def eW (p:Int):Prop:=2<=p/\p<=1000003
instance (p:Int):Decidable (eW p):=inferInstanceAs (Decidable (2<=p/\p<=1000003))
def eU (p x:Int):Prop:=0<=x/\x<p
instance (p x:Int):Decidable (eU p x):=inferInstanceAs (Decidable (0<=x/\x<p))
theorem sP {p:Int} (hp:eW p) (a:Int):eU p (a%p):=⟨zaE _ (by have:=hp.1;omega),zaq _ (by have:=hp.1;omega)⟩
theorem eU.le {p x:Int} (h:eU p x):0<=x/\x<=p:=⟨h.1,Int.le_of_lt h.2⟩
theorem eU.s {p x:Int} (hp:eW p) (h:eU p x):0<=x/\x<=1000003000000:=⟨h.1,by have:=h.2;have:=hp.2;omega⟩
theorem adV {p a b:Int} (hp:eW p) (ha:0<=a/\a<=p) (hb:0<=b/\b<=p):0<=a*b/\a*b<=1000006000009:=by
 refine⟨za0 ha.1 hb.1,?_⟩;have h1:=hp.2;have:=zaw (show a<=1000003 by omega) (show b<=1000003 by omega) hb.1 (by omega);omega
theorem apG {p a b:Int} (hp:eW p) (ha:0<=a/\a<=p) (hb:0<=b/\b<=p):du .i64 a b=a*b:=by
 have:=adV hp ha hb;exact FM (by omega) (by omega)
theorem ab2 {p s a b:Int} (hp:eW p) (hs:0<=s/\s<=1000003000000) (ha:0<=a/\a<=p) (hb:0<=b/\b<=p):iM (br .i64 s (du .i64 a b)) p=some ((s+a*b)%p):=by
 have h:=adV hp ha hb;rw[apG hp ha hb,fU (by omega) (by omega),Ur (by omega) (by have:=hp.1;omega)]
def lA (p:Int) (f g:Nat->Int):Nat->Int
 |0=>0
 |n+1=>(lA p f g n+f n*g n)%p
theorem DK {p:Int} (hp:eW p) (f g:Nat->Int):∀n,eU p (lA p f g n)
 |0=>⟨za7 _,by have:=hp.1;show(0:Int)<p;omega⟩
 |n+1=>sP hp _
def iL (p:Int) (k:Nat) (A B:Nat->Nat->Int):Nat->Nat->Int:=fun i j=>lA p (fun t=>A i t) (fun t=>B t j) k
def eR (p:Int) (r c:Nat) (M:Nat->Nat->Int):Prop:=∀i,i<r->∀j,j<c->eU p (M i j)
def gy (p:Int) (l:aa):Prop:=∀x∈l,eU p x
instance (p:Int) (l:aa):Decidable (gy p l):=inferInstanceAs (Decidable (∀x∈l,eU p x))
theorem vt {p:Int} {r c:Nat} {M:Nat->Nat->Int}:gy p (aX r c M)↔eR p r c M:=by
 constructor
 ·intro h i hi j hj;exact h _ (zap (Md M hi hj))
 ·intro h x hx;unfold aX at hx;obtain⟨n,hn,rfl⟩:=zbv.1 hx;have hn:=zaI.1 hn;have hc:0<c:=by
   rcases zaD c with h|h
   ·subst h;simp at hn
   ·exact h
  exact h _ ((zbc hc).2 hn) _ (zbr _ hc)
def tr (x:Int×Int×aa):Prop:=(0<=x.1/\x.1<=4096)/\(0<=x.2.1/\x.2.1<=4096)/\(x.2.2.length:Int)=x.1*x.2.1/\x.2.2.length<=1048576
instance (x:Int×Int×aa):Decidable (tr x):=by unfold tr;infer_instance
theorem HW {x:Int×Int×aa} (h:tr x):∃(r c:Nat) (M:Nat->Nat->Int),x=((r:Int),(c:Int),aX r c M)/\r<=4096/\c<=4096/\r*c<=1048576:=by
 obtain⟨r,c,l⟩:=x;obtain⟨h1,h2,h3,h4⟩:=h;simp only at h1 h2 h3 h4;obtain⟨r,rfl⟩:=iC h1.1;obtain⟨c,rfl⟩:=iC h2.1;have e:l.length=r*c:=by
  have:((r:Int)*(c:Int))=((r*c:Nat):Int):=by norm_cast
  rw[this] at h3;exact_mod_cast h3
 exact⟨r,c,dD c l,by rw[Me e],by omega,by omega,by omega⟩
theorem HX {r c:Nat} (M:Nat->Nat->Int) (hr:r<=4096) (hc:c<=4096) (h:r*c<=1048576):tr ((r:Int),(c:Int),aX r c M):=by
 refine⟨⟨by omega,by show(r:Int)<=4096;omega⟩,⟨by show(0:Int)<=c;omega,by show(c:Int)<=4096;omega⟩,?_,?_⟩
 ·simp only[uE];norm_cast
 ·simp only[uE];exact h

def uu (n:Int) (i:Nat):Bool:=decide ((i:Int)*i<=n)&&decide (n%(i:Int)=0)
def dJ (n:Int):Bool:=decide (2<=n/\n<=1000003)&& !((List.range' 2 999).any (uu n))
def vi:Int->Option Bool:=fun(n:Int)=>some (dJ n)
def SL (m:Int) (v:Int):Bool:=decide (0<=v/\v<m)
def wD (m:Int) (l:aa):Bool:=l.all (SL m)
def CS:Int×aa->Option Bool:=fun((m,l):Int×aa)=>if l.length<=1048576 then some (wD m l) else none
def J8:ar:=[(.one,[.int .i64])]
def UJ:ar:=[(.one,[.bool])]
def aoQ:aU:=[]
def Kr:ar:=[(.one,[.int .i64]),(.one,[.list [.int .i64]])]
def U3:ar:=[(.one,[.bool])]
def ao6:aU:=[]
def Ph (NN:Nat):Int->(Option Bool):=
 (fun(i0:Int)=>
 aI (cL i0 (2:Int))
 (some false)
 (aI (cL (1000003:Int) i0)
 (some false)
 (cm (cH NN (fun((i1,i2):(Int×Int))=>
 aI (iz (du .i64 i2 i2) i1)
 ((iM i1 i2).af (fun i3=>
 aI (c7 i3 (0:Int))
 (some (Sum.inr (Sum.inr false)))
 (some (Sum.inl (i1,br .i64 i2 1)))))
 (some (Sum.inr (Sum.inl ()))))
 (i0,(2:Int)))
 (fun _=>
 some true))))
def Ps (NN:Nat):(Int×aa)->(Option Bool):=
 (fun((i0,l1):(Int×aa))=>
 cm (cH NN (fun((i2,l3,i4,i5):(Int×(aa×(Int×Int))))=>
 aI (cL i5 i4)
 ((di l3 i5).af (fun i6=>
 aI (cL i6 (0:Int))
 (some (Sum.inr (Sum.inr false)))
 (aI (iz i2 i6)
 (some (Sum.inr (Sum.inr false)))
 (some (Sum.inl (i2,l3,i4,br .i64 i5 1))))))
 (some (Sum.inr (Sum.inl ()))))
 (i0,l1,aS (ae l1),(0:Int)))
 (fun _=>
 some true))
theorem qv {a b:Int} (h1: -9223372036854775808<=a*b) (h2:a*b<=9223372036854775807):du .i64 a b=a*b:=FM h1 h2
theorem Uq {n:Int} {i:Nat} (hn:0<=n) (hi:0<i):iM n (i:Int)=some (n%(i:Int)):=by
 unfold iM;rw[if_neg (by omega),zaX hn]
theorem Wh {i j:Nat} (h:i<=j):(i:Int)*i<=(j:Int)*j:=by
 have:=zak h h
 exact_mod_cast this
theorem aiU {X Y:Type} {f:X->Option (X⊕(Y⊕Bool))} (n:Int) (mk:Nat->X) (r:Y) (hn:n<=1000003)
  (h1:∀i:Nat,2<=i->i<=1001->(i:Int)*i<=n->n%(i:Int)=0->f (mk i)=some (.inr (.inr false)))
  (h2:∀i:Nat,2<=i->i<=1001->(i:Int)*i<=n->n%(i:Int)≠0->f (mk i)=some (.inl (mk (i+1))))
  (h3:∀i:Nat,2<=i->i<=1001->¬(i:Int)*i<=n->f (mk i)=some (.inr (.inl r))) {x0:X} (hx:x0=mk 2):
  cH aM f x0=some (if(List.range' 2 999).any (uu n)=true then .inr false else .inl r):=by
 subst hx;have cI:∀(d i:Nat),2<=i->i+d=1001->∀N,d<N->cH N f (mk i)=some (if(List.range' i d).any (uu n)=true then .inr false else .inl r):=by
  intro d;induction d with
  |zero=>
   intro i hi hd N hN;obtain⟨N,rfl⟩:∃M,N=M+1:=⟨N - 1,by omega⟩;have:i=1001:=by omega
   subst this;rw[cH,h3 1001 (by omega) (by omega) (by omega)];rfl
  |succ d ih=>
   intro i hi hd N hN;obtain⟨N,rfl⟩:∃M,N=M+1:=⟨N - 1,by omega⟩;rw[List.range'_succ,List.any_cons];by_cases kf:(i:Int)*i<=n
   ·by_cases hm:n%(i:Int)=0
    ·rw[cH,h1 i hi (by omega) kf hm];simp[uu,kf,hm]
    ·rw[cH,h2 i hi (by omega) kf hm];simp only
     rw[ih (i+1) (by omega) (by omega) N (by omega),show uu n i=false by simp[uu,hm],Bool.false_or]
   ·rw[cH,h3 i hi (by omega) kf];have:(List.range' (i+1) d).any (uu n)=false:=by
     rw[zbt];intro j hj;have:=(List.mem_range'_1.1 hj).1;have:=Wh (show i<=j by omega);simp only[uu,zac,decide_eq_true_eq,not_and];intro h;omega
    simp only
    rw[this];simp[uu,kf]
 exact cI 999 2 (by omega) (by omega) aM (eP (by omega))
theorem Wi {i:Nat} (h:i<=1001):0<=(i:Int)*i/\(i:Int)*i<=1002001:=by
 have h1:=Wh h;have h0:=Wh (zbD i);omega
theorem ajT (x:Int) (y:Bool) (h:vi x=some y):Ph aM x=some y:=by
 rw[<-h];simp only[vi,Ph];by_cases h2:x<2
 ·rw[bS (eB h2),dJ,decide_eq_false (by omega)];rfl
 rw[bN (d8 (by omega))];by_cases hx:1000003<x
 ·rw[bS (eB hx),dJ,decide_eq_false (by omega)];rfl
 rw[bN (d8 (by omega))];rw[aiU x (fun i=>(x,(i:Int))) () (by omega) ?_ ?_ ?_ ?_]
 ·have hr:(2<=x/\x<=1000003):=by omega
  by_cases hd:(List.range' 2 999).any (uu x)=true
  ·rw[if_pos hd,aby,dJ,hd];simp
  ·rw[if_neg hd,jW,dJ];simp[hd,hr]
 all_goals try simp only
 ·intro i h2 hi kf hm;have hs:=Wi hi;rw[qv (by omega) (by omega),bS (zG kf),Uq (by omega) (by omega),aB,bS (A8 hm)]
 ·intro i h2 hi kf hm;have hs:=Wi hi;rw[qv (by omega) (by omega),bS (zG kf),Uq (by omega) (by omega),aB,bN (xf hm),fU (by omega) (by omega)];rfl
 ·intro i h2 hi kf;have hs:=Wi hi;rw[qv (by omega) (by omega),bN (HS (by omega))]
 ·rfl
theorem akc (x:Int×aa) (y:Bool) (h:CS x=some y):Ps aM x=some y:=by
 obtain⟨m,l⟩:=x;simp only[CS] at h;split at h
 ·rename_i hl;rw[<-h];simp only[Ps];rw[abX (mk:=fun i=>(m,l,aS (ae l),(i:Int))) l (SL m) (Sum.inr false) (Sum.inl ()) ?_ ?_ ?_ ?_ (eP (by omega))]
  ·unfold wD;cases l.all (SL m)<;>rfl
  all_goals try simp only
  ·intro i a ha hp;have hp:=of_decide_eq_true hp;rw[bS (zH ha),fq,ha,aB,bN (d8 (by omega)),bN (HS (by omega)),H7 ha (by omega)]
  ·intro i a ha hp;have hp:=of_decide_eq_false hp;rw[bS (zH ha),fq,ha,aB];by_cases h0:a<0
   ·rw[bS (eB h0)]
   ·rw[bN (d8 (by omega)),bS (zG (by omega))]
  ·rw[bN (xV l)]
  ·rfl
 ·cases h
theorem fQ {m:Int} (h:dJ m=true):2<=m/\m<=1000003:=by
 simp only[dJ,zac,decide_eq_true_eq] at h;exact h.1
def dZ:aa->Int
 |[]=>1
 |x::l=>x*dZ l
def Ga (tp:Int) (_:Nat) (a x:Int):Int:=min (a*x) (tp+1)
def Li (tp:Int) (l:aa):Int:=DX (Ga tp) 0 1 l
theorem H4 {a x A B:Int} (h0:0<=a) (h1:a<=A) (h2:0<=x) (h3:x<=B):0<=a*x/\a*x<=A*B:=
 ⟨za0 h0 h2,zaw h1 h3 h2 (by omega)⟩
theorem Io:∀{l:aa},(∀x∈l,1<=x)->1<=dZ l
 |[],_=>by simp[dZ]
 |x::l,h=>by
  have h1:=h x zaN;have h2:=Io (l:=l) (fun x hx=>h x (zax _ hx));have:=zaw h1 h2 (by omega) (by omega);simpa[dZ] using this
theorem Qd {tp:Int} (alG:0<=tp):∀(l:aa) (i:Nat) (a:Int),(∀x∈l,1<=x)->1<=a->a<=tp+1->DX (Ga tp) i a l=min (a*dZ l) (tp+1)
 |[],i,a,_,_,h2=>by simp only[DX,dZ,zbE];omega
 |x::l,i,a,h,h1,h2=>by
  have hx:=h x zaN;have hp:=Io (l:=l) (fun x hx=>h x (zax _ hx));have rQ:=zaw h1 hx (by omega) (by omega);rw[DX,Qd alG l (i+1) _ (fun x hx=>h x (zax _ hx)) (by unfold Ga;omega) (by unfold Ga;omega),dZ,<-zaO];unfold Ga;generalize a*x=c at*
  by_cases hc:c<=tp+1
  ·rw[zbd hc]
  ·have e:min c (tp+1)=tp+1:=by omega
   rw[e];have k1:=zai hp (show 0<=tp+1 by omega);have k2:=zai hp (show 0<=c by omega);omega
def bY (l:aa) (v:Int):Nat:=l.findIdx fun a=>decide (a=v)
def qL (l:aa) (v:Int):Int:=if bY l v<l.length then(bY l v:Int) else -1
def pW:aa×Int->Option Bool:=fun(x:aa×Int)=>if x.1.length<=1048576 then some (decide (x.2∈x.1)) else none
def F7 (L D:aa) (j:Nat):Prop:=(0<=L.getD j 0/\L.getD j 0<=99)/\(1<=D.getD j 0/\D.getD j 0<=8)/\L.getD j 0∉L.take j
instance (L D:aa) (j:Nat):Decidable (F7 L D j):=by unfold F7;infer_instance
def p9 (L D:aa):Bool:=decide (L.length<=12)&&(decide (L.length=D.length)&&decide (∀j,j<L.length->F7 L D j))
def j3 (L D:aa):Int:=if p9 L D=true/\dZ D<=4096 then dZ D else -1
def Xk:aa×aa×aa->Option Int:=fun(x:aa×aa×aa)=>if x.1.length<=1048576/\x.2.1.length<=1048576 then some (j3 x.1 x.2.1) else none
def yr:aa×aa×aa->Option Int:=Xk
def Qh (m:Int) (D:aa) (R:List aa) (j:Nat):Prop:=((R.getD j []).length:Int)=D.getD j 0/\wD m (R.getD j [])=true
instance (m:Int) (D:aa) (R:List aa) (j:Nat):Decidable (Qh m D R j):=by unfold Qh;infer_instance
def aih (x:(aa×aa×aa)×Int×List aa):Bool:=
 decide (0<=j3 x.1.1 x.1.2.1)&&(decide (1<=x.2.1/\x.2.1<=12)&&(decide (x.2.2.length=x.1.2.1.length)&&decide (∀j,j<x.2.2.length->Qh x.2.1 x.1.2.1 x.2.2 j)))
def Qg (x:(aa×aa×aa)×Int×List aa):Prop:=(x.1.1.length<=1048576/\x.1.2.1.length<=1048576)/\x.2.2.length<=1048576/\∀l∈x.2.2,l.length<=1048576
instance (x:(aa×aa×aa)×Int×List aa):Decidable (Qg x):=by unfold Qg;infer_instance
def Kq:ar:=[(.one,[.list [.int .i64]]),(.one,[.int .i64])]
def U2:ar:=[(.one,[.bool])]
def ao5:aU:=[]
def Kf:ar:=[(.agg,[.list [.int .i64],.list [.int .i64],.list [.int .i64]])]
def UP:ar:=[(.one,[.int .i64])]
def aoV:aU:=[]
def Pr (NN:Nat):(aa×Int)->(Option Bool):=
 (fun((l0,i1):(aa×Int))=>
 cm (cH NN (fun((i2,l3,i4,i5):(Int×(aa×(Int×Int))))=>
 aI (cL i5 i4)
 ((di l3 i5).af (fun i6=>
 aI (c7 i2 i6)
 (some (Sum.inr (Sum.inr true)))
 (some (Sum.inl (i2,l3,i4,br .i64 i5 1)))))
 (some (Sum.inr (Sum.inl ()))))
 (i1,l0,aS (ae l0),(0:Int)))
 (fun _=>
 some false))
def Pm (NN:Nat):(aa×(aa×aa))->(Option Int):=
 (fun((l0,l1,l2):(aa×(aa×aa)))=>
 aI (cL (12:Int) (aS (ae l0)))
 (some ((-1:Int)))
 (aI (mn (aS (ae l0)) (aS (ae l1)))
 (some ((-1:Int)))
 (cm (cH NN (fun(((i3,l4,i5,i6),l7,l8,l9):((Int×(aa×(Int×Int)))×(aa×(aa×aa))))=>
 aI (cL i6 i5)
 ((di l4 i6).af (fun fG=>
 aI (cL fG (0:Int))
 (some (Sum.inr (Sum.inr ((-1:Int)))))
 (aI (cL (99:Int) fG)
 (some (Sum.inr (Sum.inr ((-1:Int)))))
 ((j0 (0:Int) i6 (ae l7)).af (fun(nu,tj)=>
 (pW (jw l7 nu tj,fG)).af (fun b13=>
 aI (b13)
 (some (Sum.inr (Sum.inr ((-1:Int)))))
 ((di l8 i6).af (fun gB=>
 aI (cL gB (1:Int))
 (some (Sum.inr (Sum.inr ((-1:Int)))))
 (aI (cL (8:Int) gB)
 (some (Sum.inr (Sum.inr ((-1:Int)))))
 (aI (cL (4096:Int) (du .i64 i3 gB))
 (some (Sum.inr (Sum.inr ((-1:Int)))))
 (some (Sum.inl ((du .i64 i3 gB,l4,i5,br .i64 i6 1),l7,l8,l9)))))))))))))
 (some (Sum.inr (Sum.inl i3))))
 (((1:Int),l0,aS (ae l0),(0:Int)),l0,l1,l2))
 (fun gF=>
 some gF))))
theorem Ww (P:Nat->Prop) [DecidablePred P]:∀c:Nat,∃n,n<=c/\(∀j,j<n->P j)/\(n=c\/¬P n)
 |0=>⟨0,zae 0,fun j hj=>absurd hj (zbF j),.inl rfl⟩
 |c+1=>by
  obtain⟨n,h1,h2,h3⟩:=Ww P c;by_cases h:P n
  ·rcases h3 with h3|h3
   ·subst h3;refine⟨n+1,zae _,fun j hj=>?_,.inl rfl⟩;by_cases kD:j=n
    ·subst kD;exact h
    ·exact h2 j (by omega)
   ·exact absurd h h3
  ·exact⟨n,by omega,h2,.inr h⟩
theorem getD_some {α:Type} {l:List α} {j:Nat} (d:α) (h:j<l.length):l[j]? =some (l.getD j d):=by
 simp[List.getD,h]
theorem B5 {α:Type} {l:List α} {j:Nat} (h:j<l.length):cL (j:Int) (aS (ae l))=true:=tq h
theorem Il {l:aa} {v:Int} {j:Nat} (h:j<bY l v):l[j]? ≠some v:=by
 intro e;have hj:j<l.length:=(zag.1 e).1;have:=List.not_of_lt_findIdx h;rw[zaa hj] at e;simp[zaP e] at this
theorem Ik {l:aa} {v:Int} (h:bY l v<l.length):l[bY l v]? =some v:=by
 have:=List.findIdx_getElem (w:=h);rw[zaa h];exact congrArg some (of_decide_eq_true this)
theorem NU (l:aa) (v:Int):bY l v<=l.length:=List.findIdx_le_length
theorem akV (l:aa) (v:Int):iz 0 (qL l v)=decide (v∈l):=by
 unfold qL iz;by_cases h:bY l v<l.length
 ·rw[if_pos h,decide_eq_true (by omega),decide_eq_true];exact zap (Ik h)
 ·rw[if_neg h,decide_eq_false (by omega),decide_eq_false];intro hm;obtain⟨i,hi,e⟩:=zaV.1 hm;have:=NU l v;exact Il (show i<bY l v by omega) (by rw[zaa hi,e])
theorem akb (x:aa×Int) (y:Bool) (h:pW x=some y):Pr aM x=some y:=by
 obtain⟨l,v⟩:=x;simp only[pW] at h;split at h
 ·rename_i hl;rw[<-h];simp only[Pr];have hp:=NU l v;rw[fS (fun i=>(v,l,aS (ae l),(i:Int))) (r:=if bY l v<l.length then Sum.inr true else Sum.inl ()) (bY l v) ?_ ?_ ?_ (eP (by omega))]
  ·rw[<-akV l v];unfold qL iz;by_cases h:bY l v<l.length
   ·rw[if_pos h,if_pos h,decide_eq_true (by omega)];rfl
   ·rw[if_neg h,if_neg h];rfl
  ·intro j hj;simp only
   have nU:j<l.length:=by omega
   rw[bS (B5 nU),fq,getD_some 0 nU,aB,bN (xf (fun e=>Il hj (by rw[getD_some 0 nU,e])))];simp only[iP (show j<=1048577 by omega)]
  ·simp only
   by_cases h:bY l v<l.length
   ·rw[if_pos h,bS (B5 h),fq,Ik h,aB,bS (A8 rfl)]
   ·rw[if_neg h,bN (show cL _ (aS (ae l))=false from r6 (by show l.length<=_;omega))]
  ·rfl
 ·cases h
theorem afY {n m:Nat} (h:n<=m):j0 0 (n:Int) m=some (0,n):=by
 unfold j0;rw[if_pos ⟨by omega,by omega,by omega⟩];simp
theorem afX (l:aa) (n:Nat):jw l 0 n=l.take n:=rfl
theorem uf {L D:aa} (h:p9 L D=true):L.length<=12/\L.length=D.length/\∀j,j<L.length->F7 L D j:=by
 simp only[p9,zac,decide_eq_true_eq] at h;exact h
theorem AO {L D:aa} (h:p9 L D=true):∀x∈D,1<=x/\x<=8:=by
 obtain⟨_,h2,h3⟩:=uf h;intro x hx;obtain⟨i,hi,e⟩:=zaV.1 hx;have:=(h3 i (by omega)).2.1;have e2:=getD_some 0 hi;rw[zaa hi,e] at e2;rw[<-zaP e2] at this;exact this
theorem adU:∀(l:aa) (x:Int),dZ (l++[x])=dZ l*x
 |[],x=>by simp[dZ]
 |a::l,x=>by simp[dZ,adU l x,zaO]
theorem adT:∀(l m:aa),dZ (l++m)=dZ l*dZ m
 |[],m=>by simp[dZ]
 |a::l,m=>by simp[dZ,adT l m,zaO]
theorem auu {D:aa} {j:Nat} (h:j<D.length):D.take (j+1)=D.take j++[D.getD j 0]:=by
 rw[za3,getD_some 0 h];rfl
theorem E5 {D:aa} {j:Nat} (h:j<D.length):dZ (D.take (j+1))=dZ (D.take j)*D.getD j 0:=by rw[auu h,adU]
theorem ase {D:aa} (h:∀x∈D,1<=x) (j:Nat):dZ (D.take j)<=dZ D:=by
 have e:dZ D=dZ (D.take j)*dZ (D.drop j):=by rw[<-adT,zbe]
 have h1:=Io (l:=D.take j) fun x hx=>h x (List.mem_of_mem_take hx);have h2:=Io (l:=D.drop j) fun x hx=>h x (zbh hx);have:=zai h2 (show 0<=dZ (D.take j) by omega);rw[e];omega
def PZ (L D:aa) (j:Nat):Prop:=F7 L D j/\dZ (D.take (j+1))<=4096
instance (L D:aa) (j:Nat):Decidable (PZ L D j):=by unfold PZ;infer_instance
theorem ajZ (x:aa×aa×aa) (y:Int) (h:yr x=some y):Pm aM x=some y:=by
 obtain⟨L,D,T⟩:=x;simp only[yr,Xk] at h;split at h
 ·rename_i hl;rw[<-h];simp only[Pm,j3];by_cases h1:L.length<=12
  rotate_left
  ·rw[bS (eB (by rw[nl];omega)),if_neg (fun q=>h1 (uf q.1).1)]
  rw[bN (d8 (by rw[nl];omega))];by_cases h2:L.length=D.length
  rotate_left
  ·rw[bS (NG (by rw[nl,nl];omega)),if_neg (fun q=>h2 (uf q.1).2.1)]
  rw[bN (H6 (by rw[nl,nl];omega))];obtain⟨n,hn,cD,Ms⟩:=Ww (PZ L D) L.length;have Sh:∀j,j<=n->1<=dZ (D.take j)/\dZ (D.take j)<=4096:=by
   intro j hj;constructor
   ·apply Io;intro x hx;obtain⟨i,hi,e⟩:=zaV.1 hx;rw[zaU] at hi;have hp:=(cD i (by omega)).1.2.1;have e2:=getD_some 0 (show i<D.length by omega);rw[List.getElem_take] at e;rw[zaa (by omega),e] at e2;rw[<-zaP e2] at hp;exact hp.1
   ·cases j with
    |zero=>simp[dZ]
    |succ j=>exact(cD j (by omega)).2
  rw[fS (fun i=>((dZ (D.take i),L,aS (ae L),(i:Int)),L,D,T)) (r:=if n<L.length then Sum.inr (-1) else Sum.inl (dZ D)) n ?_ ?_ ?_ (eP (by omega))]
  ·by_cases h:n<L.length
   ·rw[if_pos h,if_neg]
    ·rfl
    ·intro q;refine Ms.resolve_left (by omega) ⟨(uf q.1).2.2 n h,?_⟩;have:=ase (fun x hx=>(AO q.1 x hx).1) (n+1);have:=q.2;omega
   ·have e:n=L.length:=by omega
    have hp:=(Sh n (zae n)).2;rw[e,h2,zaJ] at hp;rw[if_neg h,if_pos]
    ·rfl
    ·refine⟨?_,hp⟩;simp only[p9,zac,decide_eq_true_eq];exact⟨h1,h2,fun j hj=>(cD j (by omega)).1⟩
  ·intro j hj;simp only
   obtain⟨⟨a1,a2,a3⟩,a4⟩:=cD j hj;have nU:j<L.length:=by omega
   rw[bS (B5 nU),fq,getD_some 0 nU,aB,bN (d8 (by omega)),bN (d8 (by omega)),afY (show j<=ae L by show j<=L.length;omega),aB];simp only[afX];rw[show pW (L.take j,L.getD j 0)=some (decide (L.getD j 0∈L.take j)) from if_pos (by rw[zaU];omega),aB,bN (decide_eq_false a3),fq,getD_some 0 (show j<D.length by omega),aB,bN (d8 (by omega)),bN (d8 (by omega))]
   have hb:=Sh j (by omega);obtain⟨b1,b2⟩:=H4 (a:=dZ (D.take j)) (x:=D.getD j 0) (A:=4096) (B:=8) (by omega) hb.2 (by omega) a2.2;rw[E5 (by omega)] at a4;rw[qv (by omega) (by omega),bN (d8 a4),<-E5 (by omega)];simp only[iP (show j<=1048577 by omega)]
  ·simp only
   by_cases h:n<L.length
   ·have dF:=Ms.resolve_left (by omega);rw[if_pos h,bS (B5 h),fq,getD_some 0 h,aB];by_cases c1:L.getD n 0<0
    ·rw[bS (eB c1)]
    rw[bN (d8 (by omega))];by_cases c2:99<L.getD n 0
    ·rw[bS (eB c2)]
    rw[bN (d8 (by omega)),afY (show n<=ae L by show n<=L.length;omega),aB];simp only[afX];rw[show pW (L.take n,L.getD n 0)=some (decide (L.getD n 0∈L.take n)) from if_pos (by rw[zaU];omega),aB]
    by_cases a3:L.getD n 0∈L.take n
    ·rw[bS (decide_eq_true a3)]
    rw[bN (decide_eq_false a3),fq,getD_some 0 (show n<D.length by omega),aB];by_cases c3:D.getD n 0<1
    ·rw[bS (eB c3)]
    rw[bN (d8 (by omega))];by_cases c4:8<D.getD n 0
    ·rw[bS (eB c4)]
    rw[bN (d8 (by omega))];have hb:=Sh n (zae n);obtain⟨b1,b2⟩:=H4 (a:=dZ (D.take n)) (x:=D.getD n 0) (A:=4096) (B:=8) (by omega) hb.2 (by omega) (by omega);rw[qv (by omega) (by omega)];by_cases c5:4096<dZ (D.take n)*D.getD n 0
    ·rw[bS (eB c5)]
    ·exact absurd ⟨⟨⟨by omega,by omega⟩,⟨by omega,by omega⟩,a3⟩,by rw[E5 (by omega)];omega⟩ dF
   ·have e:n=L.length:=by omega
    rw[if_neg h,bN (show cL _ (aS (ae L))=false from r6 (by show L.length<=_;omega)),e,h2,zaJ]
  ·rfl
 ·cases h
def pQ (m:Int) (s:Int×Int×Int×aa):Bool:=decide (0<=s.1/\s.1<=32)&&(decide (0<=s.2.2.1/\s.2.2.1<=32)&&(decide (1<=s.2.1/\s.2.1<=8)&&(decide ((s.2.2.2.length:Int)=s.1*s.2.1*s.2.2.1)&&wD m s.2.2.2)))
def o9 (m:Int) (_:Nat) (b:Int) (s:Int×Int×Int×aa):Option Int:=if pQ m s=true/\s.1=b then some s.2.2.1 else none
def Gb (m:Int) (_:Nat) (st:Int×Int) (s:Int×Int×Int×aa):Option (Int×Int):=if pQ m s=true/\s.1=st.1 then some (s.2.2.1,st.2*s.2.1) else none
def aV (l:List (Int×Int×Int×aa)):aa:=l.map fun s=>s.2.1
def fV (x:Int×List (Int×Int×Int×aa)):Bool:=match x with
 |(m,l)=>dJ m&&(decide (1<=l.length/\l.length<=8)&&(match ia (o9 m) 0 1 l with
  |some b=>decide (b=1)&&decide (dZ (aV l)<=4096)
  |none=>false))
def Pa:Int×List (Int×Int×Int×aa)->Option aa:=fun((m,l):Int×List (Int×Int×Int×aa))=>if l.length<=1048576 then some (aV l) else none
def Ax:Int×Int×Int×Int×aa->Option Bool:=fun((m,s):Int×Int×Int×Int×aa)=>if tT s<=1048576 then some (pQ m s) else none
def sC:Int×List (Int×Int×Int×aa)->Option Bool:=fun x=>if tS x<=1048576 then some (fV x) else none
def KL:ar:=[(.one,[.int .i64]),(.agg,[.int .i64,.int .i64,.int .i64,.list [.int .i64]])]
def Vm:ar:=[(.one,[.bool])]
def apm:aU:=[]
def J4:ar:=[(.agg,[.int .i64,.list [.int .i64,.int .i64,.int .i64,.list [.int .i64]]])]
def UF:ar:=[(.one,[.bool])]
def aoM:aU:=[]
def Xt (NN:Nat):(Int×(List (Int×(Int×(Int×aa)))))->(Option aa):=
 (fun((i0,l1):(Int×(List (Int×(Int×(Int×aa))))))=>
 cm ((bk 0 0 (ae (([]:aa)))).af (fun _=>
 cH NN (fun(((l2,i3,i4),l5):(((List (Int×(Int×(Int×aa))))×(Int×Int))×aa))=>
 aI (cL i4 i3)
 ((di l2 i4).af (fun(i6,i7,i8,l9)=>
 ak l5 (
 (cM ((i7::([]:aa))) 0 1).af (fun c8=>
 (mG (aH (ae l5) (ae c8)) 8).af (fun _=>
 (bk 0 (aH (ae l5) (ae c8)) (ae (fj l5 c8))).af (fun _=>
 some (Sum.inl ((l2,i3,br .i64 i4 1),fj l5 c8))))))))
 ((ak l5 (
 some (Sum.inl l5))).af (fun eE=>
 some (Sum.inr eE))))
 ((l1,aS (ae l1),(0:Int)),([]:aa))))
 (fun fJ=>
 (fg fJ (ae fJ)).af (fun ed=>
 some ed)))
def PH (NN:Nat):(Int×(Int×(Int×(Int×aa))))->(Option Bool):=
 (fun((i0,i1,i2,i3,l4):(Int×(Int×(Int×(Int×aa)))))=>
 aI (cL i1 (0:Int))
 (some false)
 (aI (cL (32:Int) i1)
 (some false)
 (aI (cL i3 (0:Int))
 (some false)
 (aI (cL (32:Int) i3)
 (some false)
 (aI (cL i2 (1:Int))
 (some false)
 (aI (cL (8:Int) i2)
 (some false)
 (aI (c7 (aS (ae l4)) (du .i64 (du .i64 i1 i2) i3))
 ((CS (i0,l4)).af (fun b5=>
 some b5))
 (some false))))))))
def Pc (NN:Nat):(Int×(List (Int×(Int×(Int×aa)))))->(Option Bool):=
 (fun((i0,l1):(Int×(List (Int×(Int×(Int×aa))))))=>
 (vi i0).af (fun b2=>
 aI (fw b2)
 (some false)
 (aI (cL (aS (ae l1)) (1:Int))
 (some false)
 (aI (cL (8:Int) (aS (ae l1)))
 (some false)
 (cm (cH NN (fun(((i3,i4,l5,i6,i7),i8,l9):((Int×(Int×((List (Int×(Int×(Int×aa))))×(Int×Int))))×(Int×(List (Int×(Int×(Int×aa)))))))=>
 aI (cL i7 i6)
 ((di l5 i7).af (fun(fG,ie,eT,ed)=>
 (Ax (i8,fG,ie,eT,ed)).af (fun P0=>
 aI (fw P0)
 (some (Sum.inr (Sum.inr false)))
 (aI (mn fG i3)
 (some (Sum.inr (Sum.inr false)))
 (some (Sum.inl ((eT,du .i64 i4 ie,l5,i6,br .i64 i7 1),i8,l9)))))))
 (some (Sum.inr (Sum.inl (i3,i4)))))
 (((1:Int),(1:Int),l1,aS (ae l1),(0:Int)),i0,l1))
 (fun(gF,fY)=>
 aI (c7 gF (1:Int))
 (some (iz fY (4096:Int)))
 (some false)))))))
theorem akL (x:Int×List (Int×Int×Int×aa)) (y:aa) (h:Pa x=some y):Xt aM x=some y:=by
 obtain⟨m,l⟩:=x;simp only[Pa] at h;split at h
 ·rename_i hl;rw[<-h];simp only[Xt,ak];rw[show bk 0 0 (ae ([]:aa))=some () from rfl,aB]
  rw[fS (fun i=>((l,aS (ae l),(i:Int)),aV (l.take i))) (r:=Sum.inl (aV l)) l.length ?_ ?_ ?_ (eP (by omega))]
  ·rw[jW,mr];rfl
  all_goals try simp only
  ·intro j hj;obtain⟨⟨a,p,c,d⟩,hs⟩:∃e,l[j]? =some e:=⟨_,zaa hj⟩;have e1:ae (aV (l.take j))=j:=by simp[ae,aV];omega
   have e2:fj (aV (l.take j)) [p]=aV (l.take (j+1)):=by simp[fj,aV,za3,hs]
   have e3:mG (aH j 1) 8=some ():=rO (by simp only[aH,fe];omega);rw[bS (zH hs),fq,hs,aB];simp only[e1,bE,aB,O3,Nm,show ae [p]=1 from rfl,e3,H7 hs (by omega),e2]
  ·rw[bN (xV l),zaJ];simp only[bE,aB]
  ·rfl
 ·cases h
theorem akw (x:Int×Int×Int×Int×aa) (y:Bool) (h:Ax x=some y):PH aM x=some y:=by
 obtain⟨m,a,p,c,l⟩:=x;simp only[Ax] at h;split at h
 ·rename_i hl;rw[<-h];have hl:l.length<=1048576:=hl;simp only[PH,pQ];by_cases h1:a<0
  ·rw[bS (eB h1),decide_eq_false (p:=0<=a/\a<=32) (by omega)];rfl
  rw[bN (d8 (by omega))];by_cases h2:32<a
  ·rw[bS (eB h2),decide_eq_false (p:=0<=a/\a<=32) (by omega)];rfl
  rw[bN (d8 (by omega)),decide_eq_true (p:=0<=a/\a<=32) (by omega),zaz];by_cases h3:c<0
  ·rw[bS (eB h3),decide_eq_false (p:=0<=c/\c<=32) (by omega)];rfl
  rw[bN (d8 (by omega))];by_cases h4:32<c
  ·rw[bS (eB h4),decide_eq_false (p:=0<=c/\c<=32) (by omega)];rfl
  rw[bN (d8 (by omega)),decide_eq_true (p:=0<=c/\c<=32) (by omega),zaz];by_cases h5:p<1
  ·rw[bS (eB h5),decide_eq_false (p:=1<=p/\p<=8) (by omega)];rfl
  rw[bN (d8 (by omega))];by_cases h6:8<p
  ·rw[bS (eB h6),decide_eq_false (p:=1<=p/\p<=8) (by omega)];rfl
  rw[bN (d8 (by omega)),decide_eq_true (p:=1<=p/\p<=8) (by omega),zaz];obtain⟨b1,b2⟩:=H4 (a:=a) (x:=p) (A:=32) (B:=8) (by omega) (by omega) (by omega) (by omega);obtain⟨b3,b4⟩:=H4 (a:=a*p) (x:=c) (A:=32*8) (B:=32) (by omega) (by omega) (by omega) (by omega);rw[qv (a:=a) (by omega) (by omega),qv (by omega) (by omega),show CS (m,l)=some (wD m l) from if_pos hl]
  by_cases h5:(l.length:Int)=a*p*c
  ·rw[bS (show c7 (aS (ae l)) _=true from A8 h5),decide_eq_true h5];rfl
  ·rw[bN (show c7 (aS (ae l)) _=false from xf h5),decide_eq_false h5];rfl
 ·cases h
theorem V3 {m a p c:Int} {l:aa} (h:pQ m (a,p,c,l)=true):(0<=a/\a<=32)/\(0<=c/\c<=32)/\(1<=p/\p<=8)/\(l.length:Int)=a*p*c/\wD m l=true:=by
 simp only[pQ,zac,decide_eq_true_eq] at h;exact⟨h.1,h.2.1,h.2.2.1,h.2.2.2.1,h.2.2.2.2⟩
theorem Yi {m:Int}:∀(l:List (Int×Int×Int×aa)) (i:Nat) (b z:Int),ia (Gb m) i (b,z) l=(ia (o9 m) i b l).map fun c=>(c,z*dZ (aV l))
 |[],i,b,z=>by simp[ia,aV,dZ]
 |s::l,i,b,z=>by
  rw[ia,ia];simp only[Gb,o9];by_cases hc:pQ m s=true/\s.1=b
  ·rw[if_pos hc,if_pos hc];simp only
   rw[Yi l (i+1)];simp only[aV,zah,dZ,zaO]
  ·rw[if_neg hc,if_neg hc];rfl
theorem OM {m:Int} {l:List (Int×Int×Int×aa)} (h:tS (m,l)<=1048576):l.length<=1048576/\∀e∈l,tT e<=1048576:=auk h
theorem ar6 {i:Nat} (h:i<=8):(8:Int)^i<=16777216:=by
 have h1:(8:Nat)^i<=16777216:=zbw (zbi (by decide) h) (by decide);have h2:((8^i:Nat):Int)=(8:Int)^i:=by norm_cast
 rw[<-h2];omega
theorem ajP (x:Int×List (Int×Int×Int×aa)) (y:Bool) (h:sC x=some y):Pc aM x=some y:=by
 obtain⟨m,l⟩:=x;simp only[sC] at h;split at h
 ·rename_i hl;rw[<-h];obtain⟨hlen,eA⟩:=OM hl;simp only[Pc,vi,aB,fV];cases hp:dJ m with
  |false=>rfl
  |true=>
   have hm:=fQ hp;rw[bN (by rfl),zaz];by_cases h2:l.length<1
   ·rw[bS (eB (by have:=nl l;omega)),decide_eq_false (by omega)];rfl
   rw[bN (d8 (by have:=nl l;omega))];by_cases h3:8<l.length
   ·rw[bS (eB (by have:=nl l;omega)),decide_eq_false (by omega)];rfl
   rw[bN (d8 (by have:=nl l;omega)),decide_eq_true (by omega),zaz];rw[abY l (fun(st:Int×Int) i=>((st.1,st.2,l,aS (ae l),(i:Int)),m,l)) (fun i st=>0<=st.2/\st.2<=(8:Int)^i) (Gb m) (Sum.inr false) (fun st=>Sum.inl st) ?_ ?_ ?_ (s:=(1,1)) ⟨by decide,by decide⟩ ?_ (eP (by omega))]
   ·rw[Yi];cases hf:ia (o9 m) 0 1 l with
    |none=>rfl
    |some c=>
     simp only[zam,za6];rw[jW];simp only
     by_cases hc:c=1
     ·rw[bS (A8 hc),decide_eq_true hc,zaz];rfl
     ·rw[bN (xf hc),decide_eq_false hc,zbL]
   all_goals try simp only
   ·rintro i ⟨b,z⟩ ⟨a,p,c,d⟩ Wt hi hz hs;simp only[Gb] at hs;split at hs
    ·rename_i hc;injection hs with hs;subst hs;obtain⟨t1,t2,t3,t4,t5⟩:=V3 hc.1;have gD:a=b:=hc.2;have hi8:i<=8:=by have:=HV hi;omega
     have h8:=ar6 hi8;obtain⟨b1,b2⟩:=H4 hz.1 hz.2 (show 0<=p by omega) t3.2;simp only at b1 b2;refine⟨?_,b1,?_⟩
     ·rw[bS (zH hi),fq,hi,aB];simp only
      rw[show Ax (m,a,p,c,d)=some (pQ m (a,p,c,d)) from if_pos (eA _ (zap hi)),aB,hc.1,bN (by rfl),bN (H6 gD),qv (by omega) (by omega),H7 hi (by omega)]
     ·rw[zaL];exact b2
    ·cases hs
   ·rintro i ⟨b,z⟩ ⟨a,p,c,d⟩ hi hz hs;simp only[Gb] at hs;split at hs
    ·cases hs
    ·rename_i hc;rw[bS (zH hi),fq,hi,aB];simp only
     rw[show Ax (m,a,p,c,d)=some (pQ m (a,p,c,d)) from if_pos (eA _ (zap hi)),aB]
     cases h1:pQ m (a,p,c,d) with
     |false=>rw[bS (by rfl)]
     |true=>
      rw[bN (by rfl),bS (NG (fun e=>hc ⟨h1,e⟩))]
   ·rintro⟨b,z⟩ _;simp only
    rw[bN (xV l)]
   ·rfl
 ·cases h
theorem aoB {X Y α S:Type} {f:X->Option (X⊕Y)} (es:List α) (mk:S->Nat->X) (I:Nat->S->Prop) (step:Nat->S->α->Option S) (ug:Y) (gx:S->Y)
  (h1:∀i s a,es[i]? =some a->I i s->f (mk s i)=some (match step i s a with|some s'=>.inl (mk s' (i+1))|none=>.inr ug))
  (hI:∀i s a s',es[i]? =some a->I i s->step i s a=some s'->I (i+1) s')
  (h3:∀s,I es.length s->f (mk s es.length)=some (.inr (gx s))) {s:S} (h0:I 0 s) {x0:X} (hx:x0=mk s 0) {N:Nat} (hN:es.length<N):
  cH N f x0=some (match ia step 0 s es with|some s'=>gx s'|none=>ug):=
 abY es mk I step ug gx (fun i s a s' ha hi hs=>⟨by rw[h1 i s a ha hi,hs],hI i s a s' ha hi hs⟩) (fun i s a ha hi hs=>by rw[h1 i s a ha hi,hs]) h3 h0 hx hN
def EU (x:Int×Int):Prop:=(0<=x.1/\x.1<=4096)/\(0<=x.2/\x.2<=4096)/\x.1*x.2<=1048576
instance (x:Int×Int):Decidable (EU x):=by unfold EU;infer_instance
def AA:Int×Int->Option (Int×Int×aa):=fun(x:Int×Int)=>if EU x then some (x.1,x.2,aX x.1.toNat x.2.toNat fun _ _=>0) else none
def yu:Int×Int->Option (Int×Int×aa):=fun(x:Int×Int)=>if EU x then some (x.1,x.2,aX x.1.toNat x.2.toNat fun _ _=>0) else none
def wM:(Int×Int×aa)×Int×Int->Option Int:=fun(x:(Int×Int×aa)×Int×Int)=>
 if tr x.1/\(0<=x.2.1/\x.2.1<x.1.1)/\(0<=x.2.2/\x.2.2<x.1.2.1) then some (dD x.1.2.1.toNat x.1.2.2 x.2.1.toNat x.2.2.toNat) else none
def wN:(Int×Int×aa)×Int×Int×Int->Option aa:=fun(x:(Int×Int×aa)×Int×Int×Int)=>
 if tr x.1/\(0<=x.2.1/\x.2.1<x.1.1)/\(0<=x.2.2.1/\x.2.2.1<x.1.2.1) then some (aX x.1.1.toNat x.1.2.1.toNat (tY (dD x.1.2.1.toNat x.1.2.2) x.2.1.toNat x.2.2.1.toNat x.2.2.2)) else none
def fk (M:Nat->Nat->Int) (a b:Nat):Nat->Nat->Int:=fun i j=>if i=a then M b j else if i=b then M a j else M i j
def tx (M:Nat->Nat->Int) (j:Nat):Nat->Nat->Option Nat
 |0,_=>none
 |d+1,k=>if M k j=0 then tx M j d (k+1) else some k
def uQ (p out x:Int) (n:Nat):Int:=if h:n=0 then out else uQ p (if n%2=1 then out*x%p else out) (x*x%p) (n/2)
termination_by n
decreasing_by omega
def sE:aa->Option aa:=fun(l:aa)=>if l.length<=1099511627776 then some l else none
def j4 (M:Nat->Nat->Int):Nat->Nat->Int:=fun i j=>M j i
def FR:Int×Int×aa->Option (Int×Int×aa):=fun(x:Int×Int×aa)=>if tr x then some (x.2.1,x.1,aX x.2.1.toNat x.1.toNat (j4 (dD x.2.1.toNat x.2.2))) else none
def C0:Int×Int×aa->Option (Int×Int×aa):=FR
def HZ (x:Int×(Int×Int×aa)×(Int×Int×aa)):Prop:=eW x.1/\tr x.2.1/\tr x.2.2/\x.2.1.2.1=x.2.2.1/\x.2.1.1*x.2.2.2.1<=1048576/\gy x.1 x.2.1.2.2/\gy x.1 x.2.2.2.2
instance (x:Int×(Int×Int×aa)×(Int×Int×aa)):Decidable (HZ x):=by unfold HZ;infer_instance
def Az:Int×(Int×Int×aa)×(Int×Int×aa)->Option (Int×Int×aa):=fun(x:Int×(Int×Int×aa)×(Int×Int×aa))=>
 if HZ x then some (x.2.1.1,x.2.2.2.1,aX x.2.1.1.toNat x.2.2.2.1.toNat (iL x.1 x.2.1.2.1.toNat (dD x.2.1.2.1.toNat x.2.1.2.2) (dD x.2.2.2.1.toNat x.2.2.2.2))) else none
def yx:Int×(Int×Int×aa)×(Int×Int×aa)->Option (Int×Int×aa):=Az
def KZ:ar:=[(.one,[.int .i64]),(.one,[.int .i64])]
def VB:ar:=[(.agg,[.int .i64,.int .i64,.list [.int .i64]])]
def apB:aU:=[]
def Kn:ar:=[(.one,[.int .i64]),(.one,[.int .i64])]
def UZ:ar:=[(.agg,[.int .i64,.int .i64,.list [.int .i64]])]
def ao2:aU:=[]
def Kl:ar:=[(.one,[.list [.int .i64]])]
def UX:ar:=[(.one,[.list [.int .i64]])]
def ao0:aU:=[]
def J9:ar:=[(.agg,[.int .i64,.int .i64,.list [.int .i64]]),(.one,[.int .i64]),(.one,[.int .i64])]
def UK:ar:=[(.one,[.int .i64])]
def aoR:aU:=[]
def Ka:ar:=[(.agg,[.int .i64,.int .i64,.list [.int .i64]]),(.one,[.int .i64]),(.one,[.int .i64]),(.one,[.int .i64])]
def UL:ar:=[(.one,[.list [.int .i64]])]
def Nu:aU:=[[none,none,some .bc]]
def KG:ar:=[(.agg,[.int .i64,.int .i64,.list [.int .i64]])]
def Vh:ar:=[(.agg,[.int .i64,.int .i64,.list [.int .i64]])]
def aph:aU:=[]
def KD:ar:=[(.one,[.int .i64]),(.agg,[.int .i64,.int .i64,.list [.int .i64]]),(.agg,[.int .i64,.int .i64,.list [.int .i64]])]
def Ve:ar:=[(.agg,[.int .i64,.int .i64,.list [.int .i64]])]
def ape:aU:=[]
def JN (NN:Nat):(Int×Int)->(Option (Int×(Int×aa))):=
 (fun((i0,i1):(Int×Int))=>
 (km (du .i64 i0 i1) (du .i64 i0 i1) 8).af (fun k2=>
 (fg (dk k2 (0:Int)) k2).af (fun l3=>
 some (i0,i1,l3))))
def Xr (NN:Nat):(Int×Int)->(Option (Int×(Int×aa))):=
 (fun((i0,i1):(Int×Int))=>
 (km (du .i64 i0 i1) (du .i64 i0 i1) 8).af (fun k2=>
 (fg (dk k2 (0:Int)) k2).af (fun l3=>
 some (i0,i1,l3))))
def Po (NN:Nat):aa->(Option aa):=
 (fun(l0:aa)=>
 (mG (aH (ae (([]:aa))) (ae l0)) 8).af (fun _=>
 (fg (fj (([]:aa)) l0) (aH (ae (([]:aa))) (ae l0))).af (fun l1=>
 some l1)))
def Jn (NN:Nat):((Int×(Int×aa))×(Int×Int))->(Option Int):=
 (fun(((i0,i1,l2),i3,i4):((Int×(Int×aa))×(Int×Int)))=>
 (di l2 (br .i64 (du .i64 i3 i1) i4)).af (fun i5=>
 some i5))
def Jo (NN:Nat):((Int×(Int×aa))×(Int×(Int×Int)))->(Option aa):=
 (fun(((i0,i1,l2),i3,i4,i5):((Int×(Int×aa))×(Int×(Int×Int))))=>
 (dB (br .i64 (du .i64 i3 i1) i4) (ae l2)).af (fun k6=>
 (cW l2 (aH 0 k6)).af (fun i7=>
 (mU (ae (bK l2 (aH 0 k6) i5)) (ae l2)).af (fun _=>
 some (bK l2 (aH 0 k6) i5)))))
def Jz (NN:Nat):(Int×(Int×aa))->(Option (Int×(Int×aa))):=
 (fun((i0,i1,l2):(Int×(Int×aa)))=>
 (yu (i1,i0)).af (fun(i3,i4,l5)=>
 cm ((bk 0 0 (ae (([]:aa)))).af (fun _=>
 ak l5 (
 cH NN (fun((i6,(i7,i8,l9),(fG,ie),(eT,gE),dQ,fv):(Int×((Int×(Int×aa))×((Int×Int)×((Int×Int)×(aa×aa))))))=>
 aI (cL i6 i7)
 (cm (ak dQ (
 ak fv (
 cH NN (fun(((fY,gG),(iI,gM,kj),(fH,jF),(jl,fI),kH,kI):((Int×Int)×((Int×(Int×aa))×((Int×Int)×((Int×Int)×(aa×aa))))))=>
 aI (cL gG gM)
 ((wM ((iI,gM,kj),fY,gG)).af (fun gS=>
 ak kI (
 (wN ((jl,fI,kI),gG,fY,gS)).af (fun kl=>
 ak kH (
 (bk 0 (ae kI) (ae kl)).af (fun _=>
 some (Sum.inl ((fY,br .i64 gG 1),(iI,gM,kj),(fH,jF),(jl,fI),kH,kl))))))))
 ((ak kH (
 ak kI (
 some (Sum.inl (fY,(iI,gM,kj),(fH,jF),(jl,fI),kH,kI))))).af (fun iU=>
 some (Sum.inr iU))))
 ((i6,(0:Int)),(i7,i8,l9),(fG,ie),(eT,gE),dQ,fv))))
 (fun(ig,(jn,jV,gU),(kg,g0),(kS,qk),lE,pF)=>
 ak lE (
 ak pF (
 some (Sum.inl (br .i64 ig 1,(jn,jV,gU),(kg,g0),(kS,qk),lE,pF))))))
 ((ak dQ (
 ak fv (
 some (Sum.inl ((fG,ie),(eT,gE),dQ,fv))))).af (fun qq=>
 some (Sum.inr qq))))
 ((0:Int),(i0,i1,l2),((0:Int),(0:Int)),(i3,i4),([]:aa),l5))))
 (fun((mg,ii),(iS,iT),oN,jZ)=>
 (fg jZ (ae jZ)).af (fun oO=>
 some (iS,iT,oO)))))
def Jy (NN:Nat):(Int×((Int×(Int×aa))×(Int×(Int×aa))))->(Option (Int×(Int×aa))):=
 (fun((i0,(i1,i2,l3),i4,i5,l6):(Int×((Int×(Int×aa))×(Int×(Int×aa)))))=>
 (yu (i1,i5)).af (fun(i7,i8,l9)=>
 cm ((bk 0 0 (ae (([]:aa)))).af (fun _=>
 ak l9 (
 cH NN (fun(((fG,ie),(eT,gE,dQ),(gF,fY,dm),(iI,gM),(e9,fH),eo,gT):((Int×Int)×((Int×(Int×aa))×((Int×(Int×aa))×((Int×Int)×((Int×Int)×(aa×aa)))))))=>
 aI (cL ie eT)
 (cm (ak eo (
 ak gT (
 cH NN (fun(((fI,fA,gZ),(gS,jm,iU),(ig,jn,jY),(nr,kg),(g0,kS),iK,lE):((Int×(Int×Int))×((Int×(Int×aa))×((Int×(Int×aa))×((Int×Int)×((Int×Int)×(aa×aa)))))))=>
 aI (cL gZ jn)
 (cm (cm (ak iK (
 ak lE (
 cH NN (fun(((iJ,jo,mg,ii,iS),(iT,gN,jZ),(ij,ql,ra),(nY,rV),(tf,xL),nz,oP):((Int×(Int×(Int×(Int×Int))))×((Int×(Int×aa))×((Int×(Int×aa))×((Int×Int)×((Int×Int)×(aa×aa)))))))=>
 aI (cL iS gN)
 ((wM ((iT,gN,jZ),jo,iS)).af (fun vY=>
 (wM ((ij,ql,ra),iS,mg)).af (fun MJ=>
 (iM (br .i64 ii (du .i64 vY MJ)) iJ).af (fun BA=>
 ak nz (
 ak oP (
 some (Sum.inl ((iJ,jo,mg,BA,br .i64 iS 1),(iT,gN,jZ),(ij,ql,ra),(nY,rV),(tf,xL),nz,oP))))))))
 ((ak nz (
 ak oP (
 some (Sum.inl ((ii,mg,iJ,jo),(iT,gN,jZ),(ij,ql,ra),(nY,rV),(tf,xL),nz,oP))))).af (fun g7=>
 some (Sum.inr g7))))
 ((fI,fA,gZ,(0:Int),(0:Int)),(gS,jm,iU),(ig,jn,jY),(nr,kg),(g0,kS),iK,lE))))
 (fun((Hr,BB,uN,vZ),(i64,BC,zF),(qm,BE,EF),(zv,v5),(tg,BF),xT,B0)=>
 ak B0 (
 (wN ((tg,BF,B0),vZ,BB,Hr)).af (fun EI=>
 ak xT (
 (bk 0 (ae B0) (ae EI)).af (fun _=>
 some (Sum.inl ((BB,uN,vZ),(i64,BC,zF),(qm,BE,EF),(zv,v5),(tg,BF),xT,EI))))))))
 (fun((v7,xO,BG),(Hs,zw,B2),(ML,Ht,HO),(Ev,i87),(i88,i89),Nk,l91)=>
 ak Nk (
 ak l91 (
 some (Sum.inl ((xO,BG,br .i64 v7 1),(Hs,zw,B2),(ML,Ht,HO),(Ev,i87),(i88,i89),Nk,l91))))))
 ((ak iK (
 ak lE (
 some (Sum.inl ((fA,fI),(gS,jm,iU),(ig,jn,jY),(nr,kg),(g0,kS),iK,lE))))).af (fun l92=>
 some (Sum.inr l92))))
 ((fG,ie,(0:Int)),(eT,gE,dQ),(gF,fY,dm),(iI,gM),(e9,fH),eo,gT))))
 (fun((zy,MP),(i95,i96,EJ),(SH,SI,EB),(SD,SE),(SF,amc),HJ,uS)=>
 ak HJ (
 ak uS (
 some (Sum.inl ((MP,br .i64 zy 1),(i95,i96,EJ),(SH,SI,EB),(SD,SE),(SF,amc),HJ,uS))))))
 ((ak eo (
 ak gT (
 some (Sum.inl ((iI,gM),(e9,fH),eo,gT))))).af (fun M5=>
 some (Sum.inr M5))))
 ((i0,(0:Int)),(i1,i2,l3),(i4,i5,l6),((0:Int),(0:Int)),(i7,i8),([]:aa),l9))))
 (fun((aa9,aba),(amg,Hq),Tk,M6)=>
 (fg M6 (ae M6)).af (fun HK=>
 some (amg,Hq,HK)))))
theorem aqT {r c:Nat} (hr:r<=4096) (hc:c<=4096) (h:r*c<=1048576):EU ((r:Int),(c:Int)):=by
 refine⟨⟨by omega,by show(r:Int)<=4096;omega⟩,⟨by show(0:Int)<=c;omega,by show(c:Int)<=4096;omega⟩,?_⟩;show(r:Int)*(c:Int)<=1048576;have e:(r:Int)*(c:Int)=((r*c:Nat):Int):=by norm_cast
 omega
theorem aqS {x:Int×Int} (h:EU x):∃r c:Nat,x=((r:Int),(c:Int))/\r<=4096/\c<=4096/\r*c<=1048576:=by
 obtain⟨r,c⟩:=x;obtain⟨h1,h2,h3⟩:=h;simp only at h1 h2 h3;obtain⟨r,rfl⟩:=iC h1.1;obtain⟨c,rfl⟩:=iC h2.1;have e:(r:Int)*(c:Int)=((r*c:Nat):Int):=by norm_cast
 exact⟨r,c,rfl,by omega,by omega,by omega⟩
theorem adu {r c:Nat} (hr:r<=4096) (hc:c<=4096) (h:r*c<=1048576):AA ((r:Int),(c:Int))=some ((r:Int),(c:Int),aX r c fun _ _=>0):=by
 simp only[AA,zab];rw[if_pos (aqT hr hc h)]
theorem NH {r c:Nat} (hr:r<=4096) (hc:c<=4096) (h:r*c<=1048576):yu ((r:Int),(c:Int))=some ((r:Int),(c:Int),aX r c fun _ _=>0):=adu hr hc h
theorem ak4 {r c:Nat} (hr:r<=4096) (hc:c<=4096) (h:r*c<=1048576):JN aM ((r:Int),(c:Int))=some ((r:Int),(c:Int),aX r c fun _ _=>0):=by
 simp only[JN];rw[ES (by omega) (by omega)];have:=uU (n:=r*c) (by_:=8) (by unfold fe;omega);rw[show((r*c:Nat):Int)=aS (r*c) from rfl,this,aB,ak8]
 rw[show fg (aX r c fun _ _=>0) (r*c)=some (aX r c fun _ _=>0) by
  have:=mr (aX r c fun _ _=>(0:Int));rwa[HT] at this]
 rfl
theorem Zp (x:Int×Int) (y:Int×Int×aa) (h:AA x=some y):JN aM x=some y:=by
 simp only[AA] at h;split at h
 ·rename_i hc;obtain⟨r,c,rfl,h1,h2,h3⟩:=aqS hc;rw[<-h,ak4 h1 h2 h3];rfl
 ·cases h
theorem aj8 (x:Int×Int) (y:Int×Int×aa) (h:yu x=some y):Xr aM x=some y:=Zp x y h
theorem aj6 (x y:aa) (h:sE x=some y):Po aM x=some y:=by
 simp only[sE] at h;split at h
 ·rename_i hl;rw[<-h];simp only[Po];rw[rO (by simp only[aH,ae,zaF,fe];omega),aB];have:fj [] x=x:=rfl;rw[this,show aH (ae ([]:aa)) (ae x)=ae x by simp[aH,ae],mr];rfl
 ·cases h
theorem NF {a b:Int} (h:0<=a/\a<b):∃n:Nat,a=(n:Int)/\∀m:Nat,b=(m:Int)->n<m:=⟨a.toNat,by omega,fun m hm=>by omega⟩
theorem ak2 {r c i j:Nat} {M:Nat->Nat->Int} (hr:r<=4096) (hc:c<=4096) (hi:i<r) (hj:j<c):Jn aM (((r:Int),(c:Int),aX r c M),(i:Int),(j:Int))=some (M i j):=by
 simp only[Jn];rw[MQ (by omega) (by omega) (by omega),aaD M hi hj];rfl
theorem PX {r c i j:Nat} {M:Nat->Nat->Int} (hr:r<=4096) (hc:c<=4096) (h:r*c<=1048576) (hi:i<r) (hj:j<c):wM (((r:Int),(c:Int),aX r c M),(i:Int),(j:Int))=some (M i j):=by
 simp only[wM,zab];rw[if_pos ⟨HX M hr hc h,by omega,by omega⟩];rw[wm M hi hj]
theorem ajU (x:(Int×Int×aa)×Int×Int) (y:Int) (h:wM x=some y):Jn aM x=some y:=by
 obtain⟨m,i,j⟩:=x;simp only[wM] at h;split at h
 ·rename_i hc;obtain⟨h1,h2,h3⟩:=hc;obtain⟨r,c,M,rfl,hr,hc,np⟩:=HW h1;obtain⟨i,rfl,hi⟩:=NF h2;obtain⟨j,rfl,hj⟩:=NF h3;have hi:=hi r rfl;have hj:=hj c rfl;rw[<-h,ak2 hr hc hi hj];exact congrArg some (wm M hi hj).symm
 ·cases h
theorem ak5 {r c i j:Nat} {M:Nat->Nat->Int} {x:Int} (hr:r<=4096) (hc:c<=4096) (hi:i<r) (hj:j<c):Jo aM (((r:Int),(c:Int),aX r c M),(i:Int),(j:Int),x)=some (aX r c (tY M i j x)):=by
 simp only[Jo];rw[MQ (by omega) (by omega) (by omega),aim M hi hj,aB,ja,alb M hi hj,aB,atx M hj,atb,aB]
theorem Og {r c i j:Nat} {M:Nat->Nat->Int} {x:Int} (hr:r<=4096) (hc:c<=4096) (h:r*c<=1048576) (hi:i<r) (hj:j<c):wN (((r:Int),(c:Int),aX r c M),(i:Int),(j:Int),x)=some (aX r c (tY M i j x)):=by
 simp only[wN,zab];rw[if_pos ⟨HX M hr hc h,by omega,by omega⟩];refine(congrArg some (uD fun a ha b hb=>?_));unfold tY;rw[wm M ha hb]
theorem ajV (x:(Int×Int×aa)×Int×Int×Int) (y:aa) (h:wN x=some y):Jo aM x=some y:=by
 obtain⟨m,i,j,v⟩:=x;have h0:=h;simp only[wN] at h;split at h
 ·rename_i hc;obtain⟨h1,h2,h3⟩:=hc;obtain⟨r,c,M,rfl,hr,hc,np⟩:=HW h1;obtain⟨i,rfl,hi⟩:=NF h2;obtain⟨j,rfl,hj⟩:=NF h3;have hi:=hi r rfl;have hj:=hj c rfl;rw[<-h0,ak5 hr hc hi hj,Og hr hc np hi hj]
 ·cases h
theorem NT {M:Nat->Nat->Int} {j q:Nat}:∀{d k:Nat},tx M j d k=some q->k<=q/\q<k+d/\M q j≠0
 |0,k,h=>by cases h
 |d+1,k,h=>by
  simp only[tx] at h;split at h
  ·have:=NT h;exact⟨by omega,by omega,this.2.2⟩
  ·rename_i h0;injection h with h;subst h;exact⟨by omega,by omega,h0⟩
theorem amN (p out x:Int):uQ p out x 0=out:=by rw[uQ];rfl
theorem amP {n:Nat} (h:n≠0) (p out x:Int):uQ p out x n=uQ p (if n%2=1 then out*x%p else out) (x*x%p) (n/2):=by
 rw[uQ,dif_neg h]
def vd (M:Nat->Nat->Int) (i j:Nat):Nat->Nat->Int:=fun a b=>if b<i\/b=i/\a<j then M b a else 0
theorem auD {r c:Nat} (M:Nat->Nat->Int) (i j:Nat):aX c r (tY (vd M i j) j i (M i j))=aX c r (vd M i (j+1)):=by
 refine uD fun a _ b _=>?_;unfold tY vd;by_cases h:a=j/\b=i
 ·obtain⟨rfl,rfl⟩:=h;simp
 ·rw[if_neg h];by_cases h1:b<i\/b=i/\a<j
  ·simp only[if_pos h1,if_pos (show b<i\/b=i/\a<j+1 by omega)]
  ·simp only[if_neg h1,if_neg (show¬(b<i\/b=i/\a<j+1) by omega)]
theorem auC {r c:Nat} (M:Nat->Nat->Int) (i:Nat):aX c r (vd M i c)=aX c r (vd M (i+1) 0):=by
 refine uD fun a ha b _=>?_;unfold vd;by_cases h1:b<i\/b=i/\a<c
 ·rw[if_pos h1,if_pos (by omega)]
 ·rw[if_neg h1,if_neg (by omega)]
theorem auA {r c:Nat} (M:Nat->Nat->Int):aX c r (vd M r 0)=aX c r (j4 M):=uD fun a ha b hb=>if_pos (.inl hb)
theorem auz {r c:Nat} (M:Nat->Nat->Int):aX c r (vd M 0 0)=aX c r fun _ _=>0:=uD fun a ha b hb=>if_neg (by omega)
theorem agV {r c:Nat} {M:Nat->Nat->Int} (hr:r<=4096) (hc:c<=4096) (h:r*c<=1048576):FR ((r:Int),(c:Int),aX r c M)=some ((c:Int),(r:Int),aX c r (j4 M)):=by
 simp only[FR,zab];rw[if_pos (HX M hr hc h)];refine(congrArg (fun l=>some ((c:Int),(r:Int),l)) (uD fun a ha b hb=>wm M hb ha))
theorem ak6 {r c:Nat} {M:Nat->Nat->Int} (hr:r<=4096) (hc:c<=4096) (h:r*c<=1048576):Jz aM ((r:Int),(c:Int),aX r c M)=some ((c:Int),(r:Int),aX c r (j4 M)):=by
 have h':c*r<=1048576:=by rw[zar];exact h
 simp only[Jz,NH hc hr h',aB,bE,ak];rw[show bk 0 0 (ae ([]:aa))=some () from rfl,aB]
 rw[fS (r:=Sum.inl (((0:Int),(0:Int)),((c:Int),(r:Int)),([]:aa),aX c r (j4 M))) (fun i=>((i:Int),((r:Int),(c:Int),aX r c M),((0:Int),(0:Int)),((c:Int),(r:Int)),([]:aa),aX c r (vd M i 0))) r ?_ ?_ ?_ (eP (by omega))]
 ·rw[jW];simp only[mr,aB]
 ·intro i hi;simp only
  rw[bS (tq hi)];rw[fS (r:=Sum.inl ((i:Int),((r:Int),(c:Int),aX r c M),((0:Int),(0:Int)),((c:Int),(r:Int)),([]:aa),aX c r (vd M (i+1) 0))) (fun j=>(((i:Int),(j:Int)),((r:Int),(c:Int),aX r c M),((0:Int),(0:Int)),((c:Int),(r:Int)),([]:aa),aX c r (vd M i j))) c ?_ ?_ ?_ (eP (by omega))]
  ·rw[jW];simp only[iP (show i<=1048577 by omega)]
  ·intro j hj;simp only
   rw[bS (tq hj)];simp only[PX hr hc h hi hj,Og hc hr h' hj hi,aB,Rh,auD (r:=r) (c:=c),iP (show j<=1048577 by omega)]
  ·simp only
   rw[bN (r6 (zae c)),auC]
  ·rfl
 ·simp only
  rw[bN (r6 (zae r)),auA]
 ·rw[auz];rfl
theorem akr (x y:Int×Int×aa) (h:C0 x=some y):Jz aM x=some y:=by
 have h0:FR x=some y:=h;simp only[C0,FR] at h;split at h
 ·rename_i hc;obtain⟨r,c,M,rfl,hr,hc,np⟩:=HW hc;rw[<-h0,ak6 hr hc np,agV hr hc np]
 ·cases h
def pK (W:Nat->Nat->Int) (i j:Nat):Nat->Nat->Int:=fun a b=>if a<i\/a=i/\b<j then W a b else 0
theorem ado {r c:Nat} (W:Nat->Nat->Int) (i j:Nat):aX r c (tY (pK W i j) i j (W i j))=aX r c (pK W i (j+1)):=by
 refine uD fun a _ b _=>?_;unfold tY pK;by_cases h:a=i/\b=j
 ·obtain⟨rfl,rfl⟩:=h;simp
 ·rw[if_neg h];by_cases h1:a<i\/a=i/\b<j
  ·simp only[if_pos h1,if_pos (show a<i\/a=i/\b<j+1 by omega)]
  ·simp only[if_neg h1,if_neg (show¬(a<i\/a=i/\b<j+1) by omega)]
theorem adn {r c:Nat} (W:Nat->Nat->Int) (i:Nat):aX r c (pK W i c)=aX r c (pK W (i+1) 0):=by
 refine uD fun a _ b hb=>?_;unfold pK;by_cases h1:a<i\/a=i/\b<c
 ·simp only[if_pos h1,if_pos (show a<i+1\/a=i+1/\b<0 by omega)]
 ·simp only[if_neg h1,if_neg (show¬(a<i+1\/a=i+1/\b<0) by omega)]
theorem adm {r c:Nat} (W:Nat->Nat->Int):aX r c (pK W r 0)=aX r c W:=uD fun a ha b hb=>if_pos (.inl ha)
theorem adl {r c:Nat} (W:Nat->Nat->Int):aX r c (pK W 0 0)=aX r c fun _ _=>0:=uD fun a ha b hb=>if_neg (by omega)
theorem apF {p:Int} {k:Nat} {A A' B B':Nat->Nat->Int} {i j:Nat} (hA:∀t,t<k->A i t=A' i t) (hB:∀t,t<k->B t j=B' t j):iL p k A B i j=iL p k A' B' i j:=by
 unfold iL;have:∀n,n<=k->lA p (fun t=>A i t) (fun t=>B t j) n=lA p (fun t=>A' i t) (fun t=>B' t j) n:=by
  intro n;induction n with
  |zero=>intro _;rfl
  |succ n ih=>
   intro hn;simp only[lA];rw[ih (by omega),hA n (by omega),hB n (by omega)]
 exact this k (zae k)
theorem apH {x:Int×(Int×Int×aa)×(Int×Int×aa)} (h:HZ x):∃(p:Int) (r k c:Nat) (A B:Nat->Nat->Int),x=(p,((r:Int),(k:Int),aX r k A),((k:Int),(c:Int),aX k c B))/\eW p/\
  r<=4096/\k<=4096/\c<=4096/\r*k<=1048576/\k*c<=1048576/\r*c<=1048576/\eR p r k A/\eR p k c B:=by
 obtain⟨p,a,b⟩:=x;obtain⟨hp,ha,hb,hk,np,h1,h2⟩:=h;obtain⟨r,k,A,rfl,q1,q2,q3⟩:=HW ha;obtain⟨k',c,B,rfl,q4,q5,q6⟩:=HW hb;simp only at hk np h1 h2;have:k'=k:=by omega
 subst this;have e:(r:Int)*(c:Int)=((r*c:Nat):Int):=by norm_cast
 exact⟨p,r,k',c,A,B,rfl,hp,q1,q2,q5,q3,q6,by omega,vt.1 h1,vt.1 h2⟩
theorem apI {p:Int} {r k c:Nat} {A B:Nat->Nat->Int} (hp:eW p) (hr:r<=4096) (hk:k<=4096) (hc:c<=4096) (h1:r*k<=1048576) (h2:k*c<=1048576) (h3:r*c<=1048576) (hA:eR p r k A) (hB:eR p k c B):
  HZ (p,((r:Int),(k:Int),aX r k A),((k:Int),(c:Int),aX k c B)):=by
 refine⟨hp,HX A hr hk h1,HX B hk hc h2,rfl,?_,vt.2 hA,vt.2 hB⟩;show(r:Int)*(c:Int)<=1048576;have e:(r:Int)*(c:Int)=((r*c:Nat):Int):=by norm_cast
 omega
theorem TP {p:Int} {r k c:Nat} {A B:Nat->Nat->Int} (hp:eW p) (hr:r<=4096) (hk:k<=4096) (hc:c<=4096) (h1:r*k<=1048576) (h2:k*c<=1048576) (h3:r*c<=1048576) (hA:eR p r k A) (hB:eR p k c B):
  Az (p,((r:Int),(k:Int),aX r k A),((k:Int),(c:Int),aX k c B))=some ((r:Int),(c:Int),aX r c (iL p k A B)):=by
 simp only[Az,zab];rw[if_pos (apI hp hr hk hc h1 h2 h3 hA hB)];exact congrArg (fun l=>some ((r:Int),(c:Int),l)) (uD fun i hi j hj=>apF (fun t ht=>wm A hi ht) (fun t ht=>wm B ht hj))
theorem ak3 {p:Int} {r k c:Nat} {A B:Nat->Nat->Int} (hp:eW p) (hr:r<=4096) (hk:k<=4096) (hc:c<=4096) (h1:r*k<=1048576) (h2:k*c<=1048576) (h3:r*c<=1048576) (hA:eR p r k A) (hB:eR p k c B):
  Jy aM (p,((r:Int),(k:Int),aX r k A),((k:Int),(c:Int),aX k c B))=some ((r:Int),(c:Int),aX r c (iL p k A B)):=by
 simp only[Jy,NH hr hc h3,aB,bE,ak];rw[show bk 0 0 (ae ([]:aa))=some () from rfl,aB]
 rw[fS (r:=Sum.inl (((0:Int),(0:Int)),((r:Int),(c:Int)),([]:aa),aX r c (iL p k A B))) (fun i=>((p,(i:Int)),((r:Int),(k:Int),aX r k A),((k:Int),(c:Int),aX k c B),((0:Int),(0:Int)),((r:Int),(c:Int)),([]:aa),aX r c (pK (iL p k A B) i 0))) r ?_ ?_ ?_ (eP (by omega))]
 ·rw[jW];simp only[mr,aB]
 ·intro i hi;simp only
  rw[bS (tq hi)];rw[fS (r:=Sum.inl (((i:Int),p),((r:Int),(k:Int),aX r k A),((k:Int),(c:Int),aX k c B),((0:Int),(0:Int)),((r:Int),(c:Int)),([]:aa),aX r c (pK (iL p k A B) (i+1) 0))) (fun j=>((p,(i:Int),(j:Int)),((r:Int),(k:Int),aX r k A),((k:Int),(c:Int),aX k c B),((0:Int),(0:Int)),((r:Int),(c:Int)),([]:aa),aX r c (pK (iL p k A B) i j))) c ?_ ?_ ?_ (eP (by omega))]
  ·rw[jW];simp only[iP (show i<=1048577 by omega)]
  ·intro j hj;simp only
   rw[bS (tq hj)];rw[fS (r:=Sum.inl ((iL p k A B i j,(j:Int),p,(i:Int)),((r:Int),(k:Int),aX r k A),((k:Int),(c:Int),aX k c B),((0:Int),(0:Int)),((r:Int),(c:Int)),([]:aa),aX r c (pK (iL p k A B) i j))) (fun t=>((p,(i:Int),(j:Int),lA p (fun t=>A i t) (fun t=>B t j) t,(t:Int)),((r:Int),(k:Int),aX r k A),((k:Int),(c:Int),aX k c B),((0:Int),(0:Int)),((r:Int),(c:Int)),([]:aa),aX r c (pK (iL p k A B) i j))) k ?_ ?_ ?_ (eP (by omega))]
   ·rw[jW];simp only[Og hr hc h3 hi hj,aB,Rh,ado (r:=r) (c:=c)];rw[jW];simp only[iP (show j<=1048577 by omega)]
   ·intro t ht;simp only
    rw[bS (tq ht),PX hr hk h1 hi ht,aB,PX hk hc h2 ht hj,aB,ab2 hp ((DK hp _ _ t).s hp) (hA i hi t ht).le (hB t ht j hj).le,aB];simp only[iP (show t<=1048577 by omega),lA]
   ·simp only
    rw[bN (r6 (zae k))];rfl
   ·rfl
  ·simp only
   rw[bN (r6 (zae c)),adn]
  ·rfl
 ·simp only
  rw[bN (r6 (zae r)),adm]
 ·rw[adl];rfl
theorem ako (x:Int×(Int×Int×aa)×(Int×Int×aa)) (y:Int×Int×aa) (h:yx x=some y):Jy aM x=some y:=by
 have h0:Az x=some y:=h;simp only[yx,Az] at h;split at h
 ·rename_i hc;obtain⟨p,r,k,c,A,B,rfl,hp,hr,hk,hc,h1,h2,h3,hA,hB⟩:=apH hc;rw[<-h0,ak3 hp hr hk hc h1 h2 h3 hA hB,TP hp hr hk hc h1 h2 h3 hA hB]
 ·cases h
def af9 (x:Int×Int×Int):Prop:=dJ x.1=true/\(1<=x.2.1/\x.2.1<=8)/\(1<=x.2.2/\x.2.2<=8)
instance (x:Int×Int×Int):Decidable (af9 x):=by unfold af9;infer_instance
theorem J1 {x y:Nat} (h:x+y<=1099511627776):br .i64 (x:Int) (y:Int)=((x+y:Nat):Int):=by
 rw[fU (by omega) (by omega)];omega
abbrev bF:=Nat->Nat->Int
def x9 (p inv:Int) (M:bF) (t:Nat):bF:=fun a b=>if a=t then M t b*inv%p else M a b
def jT (p:Int) (M:bF) (t j n:Nat):bF:=fun a b=>if a<n/\a≠t then(M a b+(p - M a j)*M t b)%p else M a b
def wv (p:Int) (M:bF) (t j k:Nat):bF:=x9 p (uQ p 1 (fk M t k t j) (p - 2).toNat) (fk M t k) t
def Ul (p:Int) (M:bF) (t j k:Nat) (d:Int):Int:=(if k=t then d else(p - d)%p)*fk M t k t j%p
def pO (p:Int) (r:Nat) (s:bF×aa×Int) (j:Nat):bF×aa×Int:=
 if s.2.1.length<r then
  match tx s.1 j (r - s.2.1.length) s.2.1.length with
  |none=>s
  |some k=>(jT p (wv p s.1 s.2.1.length j k) s.2.1.length j r,s.2.1++[(j:Int)],Ul p s.1 s.2.1.length j k s.2.2)
 else s
def dR (p:Int) (r:Nat) (M:bF):Nat->bF×aa×Int
 |0=>(M,[],1)
 |j+1=>pO p r (dR p r M j) j
def aee (x:Int×Int×Int×aa):Prop:=eW x.1/\tr x.2/\gy x.1 x.2.2.2
instance (x:Int×Int×Int×aa):Decidable (aee x):=by unfold aee;infer_instance
def Cg (x:Int×Int×Int×aa):bF×aa×Int:=dR x.1 x.2.1.toNat (dD x.2.2.1.toNat x.2.2.2) x.2.2.1.toNat
theorem WG {p:Int} {r c:Nat} {M:bF} (hM:eR p r c M) {a b:Nat} (ha:a<r) (hb:b<r):eR p r c (fk M a b):=by
 intro i hi j hj;unfold fk;split
 ·exact hM b hb j hj
 ·split
  ·exact hM a ha j hj
  ·exact hM i hi j hj
theorem afD {p inv:Int} {r c:Nat} {M:bF} (hp:eW p) (hM:eR p r c M) (t:Nat):eR p r c (x9 p inv M t):=by
 intro i hi j hj;unfold x9;split
 ·exact sP hp _
 ·exact hM i hi j hj
theorem air {p:Int} {r c:Nat} {M:bF} (hp:eW p) (hM:eR p r c M) (t k n:Nat):eR p r c (jT p M t k n):=by
 intro i hi j hj;unfold jT;split
 ·exact sP hp _
 ·exact hM i hi j hj
theorem ara {p:Int} (hp:eW p):eU p 1:=⟨by omega,by have:=hp.1;omega⟩
theorem ar3 {p:Int} {r c:Nat} {M:bF} (hp:eW p) (hM:eR p r c M) {t k:Nat} (ht:t<r) (hk:k<r) (j:Nat):eR p r c (wv p M t j k):=afD hp (WG hM ht hk) t
structure RI (p:Int) (r c:Nat) (s:bF×aa×Int) (j:Nat):Prop where
 m:eR p r c s.1
 l:s.2.1.length<=r
 lj:s.2.1.length<=j
 d:eU p s.2.2
 e:∀x∈s.2.1,0<=x/\x<(j:Int)
theorem RI.step {p:Int} {r c:Nat} {s:bF×aa×Int} {j:Nat} (hp:eW p) (h:RI p r c s j):RI p r c (pO p r s j) (j+1):=by
 have keep:RI p r c s (j+1):=⟨h.m,h.l,by have:=h.lj;omega,h.d,fun x hx=>by have:=h.e x hx;omega⟩;unfold pO;split
 ·rename_i hl;split
  ·exact keep
  ·rename_i k hk;have hq:=NT hk;refine⟨air hp (ar3 hp h.m hl (by omega) j) _ _ _,?_,?_,sP hp _,?_⟩
   ·simp only[zaM,zas,zaF];omega
   ·have:=h.lj;simp only[zaM,zas,zaF];omega
   ·intro x hx;simp only[List.mem_append,zbm] at hx;rcases hx with hx|rfl
    ·have:=h.e x hx;omega
    ·omega
 ·exact keep
theorem tC {p:Int} {r c:Nat} {M:bF} (hp:eW p) (hM:eR p r c M):∀j,RI p r c (dR p r M j) j
 |0=>⟨hM,zbD _,zae 0,ara hp,fun x hx=>absurd hx (List.not_mem_nil)⟩
 |j+1=>(tC hp hM j).step hp
theorem aiq {p:Int} (M:bF) (t j:Nat):jT p M t j 0=M:=by funext a b;exact if_neg (by omega)
theorem ais {p:Int} (M:bF) (t j n b:Nat):jT p M t j n n b=M n b:=if_neg (by omega)
theorem aiu {p:Int} (M:bF) (t j n b:Nat):jT p M t j n t b=M t b:=if_neg (by omega)
theorem ait {p:Int} (M:bF) (t j:Nat):jT p M t j (t+1)=jT p M t j t:=by
 funext a b;unfold jT;by_cases h:a<t
 ·rw[if_pos (by omega),if_pos (by omega)]
 ·rw[if_neg (by omega),if_neg (by omega)]
theorem Ud {M:bF} {j:Nat}:∀{d k:Nat},tx M j d k=none->∀i,k<=i->i<k+d->M i j=0
 |0,k,_,i,h1,h2=>by omega
 |d+1,k,h,i,h1,h2=>by
  simp only[tx] at h;split at h
  ·rename_i h0;by_cases hi:i=k
   ·rw[hi];exact h0
   ·exact Ud h i (by omega) (by omega)
  ·cases h
theorem adQ {M:bF} {j q:Nat}:∀{d k:Nat},tx M j d k=some q->∀i,k<=i->i<q->M i j=0
 |0,k,h,i,h1,h2=>by cases h
 |d+1,k,h,i,h1,h2=>by
  simp only[tx] at h;split at h
  ·rename_i h0;by_cases hi:i=k
   ·rw[hi];exact h0
   ·exact adQ h i (by omega) h2
  ·have:=zaP h;omega
theorem aef {p:Int} {r:Nat} {s:bF×aa×Int} {j:Nat} (hl:s.2.1.length<r) (h:tx s.1 j (r - s.2.1.length) s.2.1.length=none):pO p r s j=s:=by
 unfold pO;rw[if_pos hl,h]
theorem aeg {p:Int} {r:Nat} {s:bF×aa×Int} {j k:Nat} (hl:s.2.1.length<r) (h:tx s.1 j (r - s.2.1.length) s.2.1.length=some k):
  pO p r s j=(jT p (wv p s.1 s.2.1.length j k) s.2.1.length j r,s.2.1++[(j:Int)],Ul p s.1 s.2.1.length j k s.2.2):=by
 unfold pO;rw[if_pos hl,h]
section
variable {p:Int} {r c:Nat} {M0:bF}
end
section
variable {p:Int} {r c:Nat} {M0:bF}
end
def adP (M:bF) (L:aa):bF:=fun i t=>M i (L.getD t 0).toNat
def Zq (x:Int×Int×Int×aa):(Int×Int×aa)×(Int×Int×aa):=
  ((x.2.1,((Cg x).2.1.length:Int),aX x.2.1.toNat (Cg x).2.1.length (adP (dD x.2.2.1.toNat x.2.2.2) (Cg x).2.1)),
   (((Cg x).2.1.length:Int),x.2.2.1,(aX x.2.1.toNat x.2.2.1.toNat (Cg x).1).take ((Cg x).2.1.length*x.2.2.1.toNat)))
theorem ar1 {L:aa} {c t:Nat} (hL:∀x∈L,0<=x/\x<(c:Int)) (ht:t<L.length):cW L t=some (((L.getD t 0).toNat:Nat):Int)/\(L.getD t 0).toNat<c:=by
 have h:=hL L[t] (zbz ht);have e:L.getD t 0=L[t]:=by simp[List.getD,ht]
 rw[e];refine⟨?_,by omega⟩;show L[t]? =_;rw[zaa ht,Int.toNat_of_nonneg h.1]
section
variable {p:Int} {r c:Nat} {M R:bF} {L:aa}
end
abbrev bf:=Int×Int×Int×aa
def bO:bf:=(0,0,0,[])
def afT (s:bf):bF:=dD s.2.2.1.toNat s.2.2.2
def qB (s:bf) (v:Nat):bF:=fun i j=>afT s (i*s.2.1.toNat+v) j
def cg (l:List bf):Nat->Nat
 |0=>1
 |i+1=>(l.getD i bO).2.2.1.toNat
def x8 (m:Int) (R:Nat->Int) (s:bf) (v:Nat):Nat->Int:=fun j=>lA m R (fun t=>qB s v t j) s.1.toNat
def tI (m:Int) (l:List bf) (ix:aa):Nat->(Nat->Int)
 |0=>fun _=>1
 |i+1=>x8 m (tI m l ix i) (l.getD i bO) (ix.getD i 0).toNat
def uk (m:Int) (l:List bf) (ix:aa):Int:=tI m l ix l.length 0
def Fm (s:bf):Prop:=(0<=s.1/\s.1<=64)/\(0<=s.2.1/\s.2.1<=64)/\(0<=s.2.2.1/\s.2.2.1<=64)/\(s.2.2.2.length:Int)=s.1*s.2.1*s.2.2.1
instance (s:bf):Decidable (Fm s):=by unfold Fm;infer_instance
def Ew (D ix:aa):Bool:=decide (ix.length=D.length)&&decide (∀i,i<D.length->0<=ix.getD i 0/\ix.getD i 0<D.getD i 0)
def wP:Int×List bf->Option aa:=Pa
def t7:bf×Int×Int×Int->Option Int:=fun x=>
 if Fm x.1/\(0<=x.2.1/\x.2.1<x.1.1)/\(0<=x.2.2.1/\x.2.2.1<x.1.2.1)/\(0<=x.2.2.2/\x.2.2.2<x.1.2.2.1) then some (qB x.1 x.2.2.1.toNat x.2.1.toNat x.2.2.2.toNat) else none
def Jk:bf×Int->Option (Int×Int×aa):=fun x=>
 if Fm x.1/\(0<=x.2/\x.2<x.1.2.1) then some (x.1.1,x.1.2.2.1,aX x.1.1.toNat x.1.2.2.1.toNat (qB x.1 x.2.toNat)) else none
def Xp:(Int×List bf)×aa->Option Int:=fun x=>if fV x.1=true/\Ew (aV x.1.2) x.2=true then some (uk x.1.1 x.1.2 x.2) else none
def Aw:(Int×List bf)×aa->Option Int:=Xp
def Kk:ar:=[(.agg,[.int .i64,.list [.int .i64,.int .i64,.int .i64,.list [.int .i64]]])]
def UW:ar:=[(.one,[.list [.int .i64]])]
def aoZ:aU:=[]
def Kd:ar:=[(.agg,[.int .i64,.int .i64,.int .i64,.list [.int .i64]]),(.one,[.int .i64]),(.one,[.int .i64]),(.one,[.int .i64])]
def UN:ar:=[(.one,[.int .i64])]
def aoT:aU:=[]
def KA:ar:=[(.agg,[.int .i64,.list [.int .i64,.int .i64,.int .i64,.list [.int .i64]]]),(.one,[.list [.int .i64]])]
def Vc:ar:=[(.one,[.int .i64])]
def apc:aU:=[]
def Xq (NN:Nat):(Int×(List (Int×(Int×(Int×aa)))))->(Option aa):=
 (fun((i0,l1):(Int×(List (Int×(Int×(Int×aa))))))=>
 cm ((bk 0 0 (ae (([]:aa)))).af (fun _=>
 cH NN (fun(((l2,i3,i4),l5):(((List (Int×(Int×(Int×aa))))×(Int×Int))×aa))=>
 aI (cL i4 i3)
 ((di l2 i4).af (fun(i6,i7,i8,l9)=>
 ak l5 (
 (cM ((i7::([]:aa))) 0 1).af (fun c8=>
 (mG (aH (ae l5) (ae c8)) 8).af (fun _=>
 (bk 0 (aH (ae l5) (ae c8)) (ae (fj l5 c8))).af (fun _=>
 some (Sum.inl ((l2,i3,br .i64 i4 1),fj l5 c8))))))))
 ((ak l5 (
 some (Sum.inl l5))).af (fun eE=>
 some (Sum.inr eE))))
 ((l1,aS (ae l1),(0:Int)),([]:aa))))
 (fun fJ=>
 (fg fJ (ae fJ)).af (fun ed=>
 some ed)))
def Pk (NN:Nat):((Int×(Int×(Int×aa)))×(Int×(Int×Int)))->(Option Int):=
 (fun(((i0,i1,i2,l3),i4,i5,i6):((Int×(Int×(Int×aa)))×(Int×(Int×Int))))=>
 (di l3 (br .i64 (du .i64 (br .i64 (du .i64 i4 i1) i5) i2) i6)).af (fun i7=>
 some i7))
def Px (NN:Nat):((Int×(List (Int×(Int×(Int×aa)))))×aa)->(Option Int):=
 (fun(((i0,l1),l2):((Int×(List (Int×(Int×(Int×aa)))))×aa))=>
 cm ((bk 0 1 (ae (((1:Int)::([]:aa))))).af (fun _=>
 cH NN (fun(((l3,l4,i5,i6),(i7,l8),l9):((aa×((List (Int×(Int×(Int×aa))))×(Int×Int)))×((Int×(List (Int×(Int×(Int×aa)))))×aa)))=>
 aI (cL i6 i5)
 (cm ((di l4 i6).af (fun(fG,ie,eT,ed)=>
 (km eT eT 8).af (fun MZ=>
 cm (ak l9 (
 (bk 0 MZ (ae (dk MZ (0:Int)))).af (fun _=>
 cH NN (fun(((fv,fY,dm,iI,gM,e9,fH),(jF,gT),(fI,fA,gZ,qn),kl,iU):((aa×(Int×((List (Int×(Int×(Int×aa))))×(Int×(Int×(Int×Int))))))×((Int×(List (Int×(Int×(Int×aa)))))×((Int×(Int×(Int×aa)))×(aa×aa)))))=>
 aI (cL fH e9)
 (cm (ak kl (
 ak iU (
 ak kl (
 cH NN (fun(((mO,jn,jV,gU,kg,g0,kS,qk,lD,iJ),(jo,jH),(ii,iS,iT,oN),jZ,oO):((aa×(Int×(Int×((List (Int×(Int×(Int×aa))))×(Int×(Int×(Int×(Int×(Int×Int)))))))))×((Int×(List (Int×(Int×(Int×aa)))))×((Int×(Int×(Int×aa)))×(aa×aa)))))=>
 aI (cL iJ lD)
 ((dB iJ (ae jZ)).af (fun k48=>
 (cW jZ (aH 0 k48)).af (fun pB=>
 (dB jV (ae oO)).af (fun rY=>
 (cW oO (aH 0 rY)).af (fun rV=>
 (di mO jn).af (fun tf=>
 (t7 ((ii,iS,iT,oN),iJ,tf,jV)).af (fun xL=>
 (iM (br .i64 rV (du .i64 pB xL)) jo).af (fun xN=>
 (dB jV (ae oO)).af (fun Tc=>
 (cW oO (aH 0 Tc)).af (fun vY=>
 ak jZ (
 (bk 0 (ae oO) (ae (bK oO (aH 0 Tc) xN))).af (fun _=>
 ak jZ (
 some (Sum.inl ((mO,jn,jV,gU,kg,g0,kS,qk,lD,br .i64 iJ 1),(jo,jH),(ii,iS,iT,oN),jZ,bK oO (aH 0 Tc) xN)))))))))))))))
 ((ak jZ (
 ak oO (
 some (Sum.inl ((qk,mO,jn,gU,kg,g0,kS),(jo,jH),(ii,iS,iT,oN),jZ,oO))))).af (fun jI=>
 some (Sum.inr jI))))
 ((fv,fY,fH,dm,iI,gM,e9,fH,aS (ae kl),(0:Int)),(jF,gT),(fI,fA,gZ,qn),kl,iU)))))
 (fun((BA,g7,Hr,rb,uN,vZ,i64),(BC,zF),(qm,BE,zu,EG),BX,BZ)=>
 ak BX (
 ak BZ (
 some (Sum.inl ((g7,Hr,rb,uN,vZ,i64,br .i64 BA 1),(BC,zF),(qm,BE,zu,EG),BX,BZ))))))
 ((ak iU (
 some (Sum.inl ((gM,fv,dm,iI),(jF,gT),iU)))).af (fun EH=>
 some (Sum.inr EH))))
 ((l3,i6,l4,i5,i6,aS MZ,(0:Int)),(i7,l8),(fG,ie,eT,ed),l9,dk MZ (0:Int)))))
 (fun((SG,B0,EI,v7),(xO,Tp),B1)=>
 ak B1 (
 some (Sum.inl ((SG,B0,EI,v7),(xO,Tp),B1)))))))
 (fun((zw,B2,wc,Ht),(Eu,Nj),tn)=>
 ak tn (
 some (Sum.inl ((B2,wc,Ht,br .i64 zw 1),(Eu,Nj),tn)))))
 ((ak l9 (
 some (Sum.inl l9))).af (fun pG=>
 some (Sum.inr pG))))
 ((l2,l1,aS (ae l1),(0:Int)),(i0,l1),((1:Int)::([]:aa)))))
 (fun wg=>
 (dB (0:Int) (ae wg)).af (fun Tg=>
 (cW wg (aH 0 Tg)).af (fun zx=>
 some zx))))
def bd (b:Int) (l:List bf):Nat->Int
 |0=>b
 |k+1=>(l.getD k bO).2.2.1
theorem Qi {m:Int}:∀(l:List bf) (i:Nat) (b c:Int),ia (o9 m) i b l=some c↔((∀k,k<l.length->pQ m (l.getD k bO)=true/\(l.getD k bO).1=bd b l k)/\c=bd b l l.length)
 |[],i,b,c=>by
  simp only[ia,bd,zaF];exact⟨fun h=>⟨fun k hk=>absurd hk (zbF k),(zaP h).symm⟩,fun h=>by rw[h.2]⟩
 |s::l,i,b,c=>by
  have cI:∀k,bd b (s::l) (k+1)=bd s.2.2.1 l k:=fun k=>by cases k<;>rfl
  rw[ia];by_cases hs:pQ m s=true/\s.1=b
  ·rw[show o9 m i b s=some s.2.2.1 from if_pos hs]
   try simp only
   rw[Qi l (i+1) s.2.2.1 c];constructor
   ·rintro⟨h1,h2⟩;refine⟨fun k hk=>?_,h2.trans (cI _).symm⟩;cases k with
    |zero=>exact hs
    |succ k=>rw[cI];exact h1 k (by simpa using hk)
   ·rintro⟨h1,h2⟩;exact⟨fun k hk=>by rw[<-cI];exact h1 (k+1) (by simpa using hk),h2.trans (cI _)⟩
  ·rw[show o9 m i b s=none from if_neg hs]
   constructor
   ·intro h;cases h
   ·rintro⟨h1,_⟩;exact absurd (h1 0 (by simp)) hs
theorem P9 (l:List bf) (k:Nat):(bd 1 l k).toNat=cg l k:=by cases k<;>rfl
theorem ul {m:Int} {l:List bf} (h:fV (m,l)=true):eW m/\(1<=l.length/\l.length<=8)/\dZ (aV l)<=4096/\cg l l.length=1/\
  ∀i,i<l.length->∃(p:Nat) (M:bF),l.getD i bO=((cg l i:Int),(p:Int),(cg l (i+1):Int),aX (cg l i*p) (cg l (i+1)) M)/\cg l i<=32/\cg l (i+1)<=32/\(1<=p/\p<=8)/\
   eR m (cg l i*p) (cg l (i+1)) M/\M=dD (cg l (i+1)) (aX (cg l i*p) (cg l (i+1)) M):=by
 simp only[fV,zac,decide_eq_true_eq] at h;obtain⟨hp,hl,h⟩:=h;cases hf:ia (o9 m) 0 1 l with
 |none=>rw[hf] at h;cases h
 |some c=>
  rw[hf] at h;simp only[zac,decide_eq_true_eq] at h;obtain⟨h1,h2⟩:=(Qi l 0 1 c).1 hf;have hm:=fQ hp;refine⟨hm,hl,h.2,by rw[<-P9,<-h2,h.1];rfl,fun i hi=>?_⟩;obtain⟨s1,s2⟩:=h1 i hi;have e2:(l.getD i bO).2.2.1=bd 1 l (i+1):=rfl;generalize hs:l.getD i bO=s at*
  obtain⟨a,p,c',d⟩:=s;obtain⟨t1,t2,t3,t4,t5⟩:=V3 s1;simp only at s2 e2;obtain⟨p,rfl⟩:=iC (show 0<=p by omega);have ea:a=(cg l i:Int):=by rw[<-P9,<-s2];omega
  have ec:c'=(cg l (i+1):Int):=by rw[<-P9,<-e2];omega
  subst ea ec;have el:d.length=cg l i*p*cg l (i+1):=by
   have:((cg l i:Int)*(p:Int)*(cg l (i+1):Int))=((cg l i*p*cg l (i+1):Nat):Int):=by norm_cast
   rw[this] at t4;exact_mod_cast t4
  have eg:=Me (r:=cg l i*p) (c:=cg l (i+1)) el;refine⟨p,dD (cg l (i+1)) d,by rw[eg],by omega,by omega,by omega,?_,by rw[eg]⟩;rw[<-vt,eg];intro x hx;exact of_decide_eq_true (zbA.1 t5 x hx)
theorem rG (l:List bf) (i:Nat):(aV l).getD i 0=(l.getD i bO).2.1:=by
 simp only[aV,zaf,zaj];cases l[i]? <;>rfl
theorem gw (l:List bf):(aV l).length=l.length:=by simp[aV]
theorem afR {s:bf} (h:Fm s):∃(a p c:Nat) (M:bF),s=((a:Int),(p:Int),(c:Int),aX (a*p) c M)/\a<=64/\p<=64/\c<=64/\M=dD c (aX (a*p) c M):=by
 obtain⟨a,p,c,d⟩:=s;obtain⟨h1,h2,h3,h4⟩:=h;simp only at h1 h2 h3 h4;obtain⟨a,rfl⟩:=iC h1.1;obtain⟨p,rfl⟩:=iC h2.1;obtain⟨c,rfl⟩:=iC h3.1;have el:d.length=a*p*c:=by
  have:((a:Int)*(p:Int)*(c:Int))=((a*p*c:Nat):Int):=by norm_cast
  rw[this] at h4;exact_mod_cast h4
 have eg:=Me (r:=a*p) (c:=c) el;exact⟨a,p,c,dD c d,by rw[eg],by omega,by omega,by omega,by rw[eg]⟩
theorem afS {a p c:Nat} (M:bF) (ha:a<=64) (hp:p<=64) (hc:c<=64):Fm ((a:Int),(p:Int),(c:Int),aX (a*p) c M):=by
 refine⟨⟨by omega,by show(a:Int)<=64;omega⟩,⟨by show(0:Int)<=p;omega,by show(p:Int)<=64;omega⟩,⟨by show(0:Int)<=c;omega,by show(c:Int)<=64;omega⟩,?_⟩;simp only[uE];norm_cast
theorem Cv {a p c:Nat} {M:bF} (e:M=dD c (aX (a*p) c M)) (v:Nat):qB ((a:Int),(p:Int),(c:Int),aX (a*p) c M) v=fun i j=>M (i*p+v) j:=by
 funext i j;simp only[qB,afT,zab];rw[<-e]
theorem ajX (x:bf×Int×Int×Int) (y:Int) (h:t7 x=some y):Pk aM x=some y:=by
 obtain⟨s,i,v,j⟩:=x;simp only[t7] at h;split at h
 ·rename_i hc;obtain⟨hs,hi,hv,hj⟩:=hc;obtain⟨a,p,c,M,rfl,ha,hp,hc,eM⟩:=afR hs;obtain⟨i,rfl⟩:=iC hi.1;obtain⟨v,rfl⟩:=iC hv.1;obtain⟨j,rfl⟩:=iC hj.1;rw[<-h,Cv eM];simp only[zab,Pk];have e7:i<a:=by have:=hi.2;simp only at this;omega
  have gR:v<p:=by have:=hv.2;simp only at this;omega
  have kD:j<c:=by have:=hj.2;simp only at this;omega
  have hk:=uO e7 gR;have hap:a*p<=64*64:=zak ha hp;rw[MQ (by omega) (by omega) (by omega),MQ (by omega) (by omega) (by omega),aaD M hk kD,aB]
 ·cases h
theorem afQ {a p c i v j:Nat} {M:bF} (ha:a<=64) (hp:p<=64) (hc:c<=64) (e:M=dD c (aX (a*p) c M)) (hi:i<a) (hv:v<p) (hj:j<c):
  t7 (((a:Int),(p:Int),(c:Int),aX (a*p) c M),(i:Int),(v:Int),(j:Int))=some (M (i*p+v) j):=by
 simp only[t7];rw[if_pos ⟨afS M ha hp hc,by first|omega|(simp only;omega),by first|omega|(simp only;omega),by first|omega|(simp only;omega)⟩,Cv e]
 simp only[zab]
theorem abM {a p c v:Nat} {M:bF} (ha:a<=64) (hp:p<=64) (hc:c<=64) (e:M=dD c (aX (a*p) c M)) (hv:v<p):
  Jk (((a:Int),(p:Int),(c:Int),aX (a*p) c M),(v:Int))=some ((a:Int),(c:Int),aX a c (fun i j=>M (i*p+v) j)):=by
 simp only[Jk];rw[if_pos ⟨afS M ha hp hc,by first|omega|(simp only;omega)⟩,Cv e]
 simp only[zab]
def bu (n:Nat) (f:Nat->Int):aa:=(List.range n).map f
theorem eO (n:Nat) (f:Nat->Int):(bu n f).length=n:=by simp[bu]
theorem lK {n j:Nat} (f:Nat->Int) (h:j<n):(bu n f)[j]? =some (f j):=by simp[bu,zaA h]
theorem gJ {n:Nat} {f g:Nat->Int} (h:∀j,j<n->f j=g j):bu n f=bu n g:=zaK fun j hj=>h j (zaI.1 hj)
theorem wC {n j:Nat} (f:Nat->Int) (x:Int):bK (bu n f) j x=bu n (fun q=>if q=j then x else f q):=by
 unfold bK;apply zal;intro k;rw[zbs,eO];by_cases hk:k<n
 ·rw[lK _ hk,lK _ hk];by_cases e:j=k
  ·subst e;simp[hk]
  ·rw[if_neg e];simp[show¬k=j from fun h=>e h.symm]
 ·rw[zad (by rw[eO];omega),zad (by rw[eO];omega)];by_cases e:j=k
  ·subst e;simp[hk]
  ·simp[e]
theorem lG (n:Nat) (f:Nat->Int):ae (bu n f)=n:=eO n f
theorem ael (n:Nat) (x:Int):dk n x=bu n (fun _=>x):=by
 unfold dk bu;rw[zbC,za2]
theorem lV (n:Nat) (f g:Nat->Int):bk 0 (ae (bu n f)) (ae (bu n g))=some ():=by rw[lG,lG];exact bE n
theorem uo {n j:Nat} (f:Nat->Int) (h:j<n):dB (j:Int) (ae (bu n f))=some j:=rD (by rw[lG];exact h)
theorem qe {n j:Nat} (f:Nat->Int) (h:j<n):cW (bu n f) j=some (f j):=lK f h
theorem ala {n j:Nat} (f:Nat->Int) (h:j<n):di (bu n f) (j:Int)=some (f j):=by rw[fq,lK f h]
theorem asQ {m:Int} (hm:eW m) (l:List bf) (ix:aa):∀i j,eU m (tI m l ix i j)
 |0,j=>⟨by show(0:Int)<=1;omega,by have:=hm.1;show(1:Int)<m;omega⟩
 |i+1,j=>DK hm _ _ _
theorem amA {D ix:aa} (h:Ew D ix=true):ix.length=D.length/\∀i,i<D.length->0<=ix.getD i 0/\ix.getD i 0<D.getD i 0:=by
 simp only[Ew,zac,decide_eq_true_eq] at h;exact h
theorem atL {m:Int} {l:List bf} {ix:aa} (h:fV (m,l)=true) (hx:Ew (aV l) ix=true) {i:Nat} (hi:i<l.length):
  ∃(p v:Nat) (M:bF),l[i]? =some ((cg l i:Int),(p:Int),(cg l (i+1):Int),aX (cg l i*p) (cg l (i+1)) M)/\ix[i]? =some (v:Int)/\v<p/\cg l i<=32/\cg l (i+1)<=32/\p<=8/\
   eR m (cg l i*p) (cg l (i+1)) M/\M=dD (cg l (i+1)) (aX (cg l i*p) (cg l (i+1)) M)/\tI m l ix (i+1)=fun j=>lA m (tI m l ix i) (fun t=>M (t*p+v) j) (cg l i):=by
 obtain⟨_,_,_,_,hs⟩:=ul h;obtain⟨p,M,e,h1,h2,h3,h4,h5⟩:=hs i hi;obtain⟨k1,k2⟩:=amA hx;have hk:=k2 i (by rw[gw];exact hi);rw[rG,e] at hk;simp only at hk;obtain⟨v,hv⟩:=iC hk.1;have fW:i<ix.length:=by rw[k1,gw];exact hi
 refine⟨p,v,M,?_,?_,by omega,h1,h2,h3.2,h4,h5,?_⟩
 ·rw[getD_some bO hi,e]
 ·rw[getD_some 0 fW,hv]
 ·funext j;simp only[tI,x8,e,hv,zab];rw[Cv h5]
theorem UB {m:Int} {a p c v:Nat} {M:bF} (h:eR m (a*p) c M) (hv:v<p) {t j:Nat} (ht:t<a) (hj:j<c):eU m (M (t*p+v) j):=h _ (uO ht hv) j hj
def pY (R':Nat->Int) (j:Nat) (s:Int):Nat->Int:=fun q=>if q<j then R' q else if q=j then s else 0
theorem akl (x:(Int×List bf)×aa) (y:Int) (h:Aw x=some y):Px aM x=some y:=by
 obtain⟨⟨m,l⟩,ix⟩:=x;simp only[Aw,Xp] at h;split at h
 ·rename_i hc;obtain⟨hc,hx⟩:=hc;rw[<-h];obtain⟨hm,hl,_,hb,_⟩:=ul hc;simp only[Px,uk,ak];rw[show bk 0 1 (ae [(1:Int)])=some () from rfl,aB]
  rw[fS (fun i=>((ix,l,aS (ae l),(i:Int)),(m,l),bu (cg l i) (tI m l ix i))) (r:=Sum.inl (bu 1 (tI m l ix l.length))) l.length ?_ ?_ ?_ (eP (by omega))]
  ·rw[jW]
   try simp only
   rw[show(0:Int)=((0:Nat):Int) from rfl,uo _ (by omega),aB,ja,qe _ (by omega),aB]
  ·intro i hi;obtain⟨p,v,M,e1,e2,hv,h1,h2,h3,h4,h5,h6⟩:=atL hc hx hi
   try simp only
   rw[bS (B5 hi),fq,e1,aB]
   try simp only
   generalize hR:tI m l ix i=R at*
   generalize y7:tI m l ix (i+1)=R' at*
   generalize ha:cg l i=a at*
   generalize Mo:cg l (i+1)=c at*
   have alj:∀j,eU m (R j):=fun j=>by rw[<-hR];exact asQ hm l ix i j
   rw[show km (c:Int) (c:Int) 8=some c from uU (n:=c) (by simp only[fe];omega),aB]
   simp only[bE,aB,show bk 0 c (ae (dk c (0:Int)))=some () from by rw[Nn];exact bE c]
   rw[fS (fun j=>((ix,(i:Int),l,aS (ae l),(i:Int),(c:Int),(j:Int)),(m,l),((a:Int),(p:Int),(c:Int),aX (a*p) c M),bu a R,bu c (pY R' j 0))) (r:=Sum.inl (((i:Int),ix,l,aS (ae l)),(m,l),bu c R')) c ?_ ?_ ?_ (eP (by omega))]
   ·rw[jW]
    try simp only[lV,aB]
    rw[jW];simp only[lV,aB,iP (show i<=1048577 by omega)]
   ·intro j hj
    try simp only
    rw[bS (tq hj)]
    try simp only[lV,aB]
    rw[fS (fun t=>((ix,(i:Int),(j:Int),l,aS (ae l),(i:Int),(c:Int),(j:Int),aS (ae (bu a R)),(t:Int)),(m,l),((a:Int),(p:Int),(c:Int),aX (a*p) c M),bu a R,bu c (pY R' j (lA m R (fun t=>M (t*p+v) j) t))))
     (r:=Sum.inl (((j:Int),ix,(i:Int),l,aS (ae l),(i:Int),(c:Int)),(m,l),((a:Int),(p:Int),(c:Int),aX (a*p) c M),bu a R,bu c (pY R' (j+1) 0))) a ?_ ?_ ?_ (eP (by omega))]
    ·rw[jW];simp only[lV,aB,iP (show j<=1048577 by omega)]
    ·intro t ht
     try simp only
     rw[bS (by rw[lG];exact tq ht),uo _ ht,aB,ja,qe _ ht,aB,uo _ hj,aB,ja,qe _ hj,aB,fq,e2,aB,afQ (by omega) (by omega) (by omega) h5 ht hv hj,aB];have ej:pY R' j (lA m R (fun t=>M (t*p+v) j) t) j=lA m R (fun t=>M (t*p+v) j) t:=by simp[pY]
     rw[ej,ab2 hm ((DK hm _ _ t).s hm) (alj t).le (UB h4 hv ht hj).le,aB];have es:bK (bu c (pY R' j (lA m R (fun t=>M (t*p+v) j) t))) j ((lA m R (fun t=>M (t*p+v) j) t+R t*M (t*p+v) j)%m)=bu c (pY R' j (lA m R (fun t=>M (t*p+v) j) (t+1))):=by
      rw[wC];refine gJ fun q _=>?_;simp only[pY,lA];by_cases e:q=j
      ·subst e;simp
      ·simp[e]
     rw[aB,ja,qe _ hj,aB,es];simp only[lV,aB,iP (show t<=1048577 by omega)]
    ·try simp only
     rw[bN (by rw[lG];exact r6 (zae a))]
     try simp only[lV,aB]
     have ee:bu c (pY R' j (lA m R (fun t=>M (t*p+v) j) a))=bu c (pY R' (j+1) 0):=by
      refine gJ fun q _=>?_;simp only[pY,h6];by_cases e:q<j
      ·simp[e,show q<j+1 by omega]
      ·by_cases e2:q=j
       ·subst e2;simp
       ·simp[e,e2,show¬q<j+1 by omega]
     rw[ee]
    ·rfl
   ·try simp only
    rw[bN (r6 (zae c))]
    try simp only[lV,aB]
    rw[show bu c (pY R' c 0)=bu c R' from gJ fun q hq=>by simp[pY,hq]]
   ·rw[ael,show bu c (fun _=>0)=bu c (pY R' 0 0) from gJ fun q _=>by simp[pY]]
    rfl
  ·try simp only
   rw[bN (xV l),hb]
   try simp only[lV,aB]
  ·rfl
 ·cases h
theorem aam {α:Type} (P:Nat->α->Bool) (d:α):∀(l:List α) (i:Nat),ia (fun i (_:Unit) a=>if P i a=true then some () else none) i () l=if(∀k,k<l.length->P (i+k) (l.getD k d)=true) then some () else none
 |[],i=>by simp[ia]
 |a::l,i=>by
  rw[ia];by_cases h:P i a=true
  ·rw[if_pos h]
   try simp only
   rw[aam P d l (i+1)];have:(∀k,k<l.length->P (i+1+k) (l.getD k d)=true)↔(∀k,k<(a::l).length->P (i+k) ((a::l).getD k d)=true):=by
    constructor
    ·intro h1 k hk;cases k with
     |zero=>exact h
     |succ k=>have:=h1 k (by simpa using hk);rw[show i+(k+1)=i+1+k by omega];exact this
    ·intro h1 k hk;have:=h1 (k+1) (by simpa using hk);rw[show i+(k+1)=i+1+k by omega] at this;exact this
   by_cases hc:∀k,k<l.length->P (i+1+k) (l.getD k d)=true
   ·rw[if_pos hc,if_pos (this.1 hc)]
   ·rw[if_neg hc,if_neg (fun h2=>hc (this.2 h2))]
  ·rw[if_neg h,if_neg (fun h1=>h (h1 0 (by simp)))]
theorem aj5 (x:Int×List (Int×Int×Int×aa)) (y:aa) (h:wP x=some y):Xq aM x=some y:=by
 have h0:=akL x y h;exact h0
theorem map_take {α:Type} (g:α->Int) {L:List α} {j:Nat} {x:α} (h:L[j]? =some x):fj ((L.take j).map g) [g x]=(L.take (j+1)).map g:=by
 simp[fj,za3,h]
def bh:aa->Nat
 |[]=>1
 |x::l=>x.toNat*bh l
def bQ (D:aa) (i:Nat):Nat:=bh (D.drop i)
def gm (D:aa) (n i:Nat):Int:=((n/bQ D (i+1)%(D.getD i 0).toNat:Nat):Int)
def cA (D:aa) (n:Nat):aa:=bu D.length (gm D n)
def oS (D ix:aa):Nat->Nat
 |0=>0
 |j+1=>oS D ix j*(D.getD j 0).toNat+(ix.getD j 0).toNat
def lz (D:aa):Prop:=D.length<=1048576/\∀x∈D,1<=x/\x<=1048576
instance (D:aa):Decidable (lz D):=by unfold lz;infer_instance
def sF:aa×aa->Option (Bool×aa):=fun x=>
 if lz x.1/\x.2=cA x.1 (oS x.1 x.2 x.1.length)/\oS x.1 x.2 x.1.length<bh x.1/\bh x.1<=1048576 then
  some (decide (oS x.1 x.2 x.1.length+1<bh x.1),cA x.1 (oS x.1 x.2 x.1.length+1)) else none
def bz (n:Nat):aa:=bu n fun i=>(i:Int)
def gL (m:Int) (l:List bf):aa×aa×aa:=(bz l.length,aV l,bu (bh (aV l)) fun n=>uk m l (cA (aV l) n))
def O9:Int×List bf->Option (aa×aa×aa):=fun x=>if tS x<=1048576 then some (if fV x=true then gL x.1 x.2 else([],[],[])) else none
def t6:Int×List bf->Option (aa×aa×aa):=O9
def Ky:ar:=[(.one,[.list [.int .i64]]),(.one,[.list [.int .i64]])]
def Va:ar:=[(.one,[.bool]),(.one,[.list [.int .i64]])]
def NA:aU:=[[],[some .bc]]
def J5:ar:=[(.agg,[.int .i64,.list [.int .i64,.int .i64,.int .i64,.list [.int .i64]]])]
def UG:ar:=[(.agg,[.list [.int .i64],.list [.int .i64],.list [.int .i64]])]
def aoN:aU:=[]
def Pv (NN:Nat):(aa×aa)->(Option (Bool×aa)):=
 (fun((l0,l1):(aa×aa))=>
 cm (ak l1 (
 cH NN (fun(((l2,i3),l4):((aa×Int)×aa))=>
 aI (iz (0:Int) i3)
 ((dB i3 (ae l4)).af (fun k5=>
 (cW l4 (aH 0 k5)).af (fun i6=>
 (dB i3 (ae l4)).af (fun k7=>
 (cW l4 (aH 0 k7)).af (fun i8=>
 (dB i3 (ae l4)).af (fun k9=>
 (cW (bK l4 (aH 0 k7) (br .i64 i6 1)) (aH 0 k9)).af (fun fG=>
 (di l2 i3).af (fun ie=>
 aI (cL fG ie)
 ((((mU (ae (bK l4 (aH 0 k7) (br .i64 i6 1))) (ae l1)).af (fun _=>
 some (true,bK l4 (aH 0 k7) (br .i64 i6 1)))).af (fun((Lc,ed):(Bool×aa))=>
 some (Sum.inr (Lc,ed)))).af (fun dQ=>
 some (Sum.inr dQ)))
 ((dB i3 (ae l4)).af (fun S4=>
 (cW (bK l4 (aH 0 k7) (br .i64 i6 1)) (aH 0 S4)).af (fun fY=>
 (bk 0 (ae l4) (ae (bK (bK l4 (aH 0 k7) (br .i64 i6 1)) (aH 0 S4) (0:Int)))).af (fun _=>
 some (Sum.inl ((l2,lL .i64 i3 1),bK (bK l4 (aH 0 k7) (br .i64 i6 1)) (aH 0 S4) (0:Int)))))))))))))))
 (some (Sum.inr (Sum.inl l4))))
 ((l0,lL .i64 (aS (ae l0)) (1:Int)),l1)))
 (fun dm=>
 (mU (ae dm) (ae l1)).af (fun _=>
 some (false,dm))))
def Pf (NN:Nat):(Int×(List (Int×(Int×(Int×aa)))))->(Option (aa×(aa×aa))):=
 (fun((i0,l1):(Int×(List (Int×(Int×(Int×aa))))))=>
 (sC (i0,l1)).af (fun b2=>
 aI (fw b2)
 (some (([]:aa),([]:aa),([]:aa)))
 ((wP (i0,l1)).af (fun l3=>
 cm ((bk 0 0 (ae (([]:aa)))).af (fun _=>
 (bk 0 0 (ae (([]:aa)))).af (fun _=>
 (bk 0 0 (ae (([]:aa)))).af (fun _=>
 (bk 0 0 (ae (([]:aa)))).af (fun _=>
 ak l3 (
 (bk 0 0 (ae (([]:aa)))).af (fun _=>
 cH NN (fun(((i4,i5),(i6,l7),l8,l9,c8,eE,fJ,ed):((Int×Int)×((Int×(List (Int×(Int×(Int×aa)))))×(aa×(aa×(aa×(aa×(aa×aa))))))))=>
 aI (cL i5 i4)
 (ak eE (
 (cM ((i5::([]:aa))) 0 1).af (fun dQ=>
 (mG (aH (ae eE) (ae dQ)) 8).af (fun _=>
 ak l8 (
 ak l9 (
 ak c8 (
 (bk 0 (aH (ae eE) (ae dQ)) (ae (fj eE dQ))).af (fun _=>
 ak fJ (
 ak ed (
 some (Sum.inl ((i4,br .i64 i5 1),(i6,l7),l8,l9,c8,fj eE dQ,fJ,ed))))))))))))
 ((ak l8 (
 ak l9 (
 ak c8 (
 ak eE (
 ak fJ (
 ak ed (
 some (Sum.inl ((i6,l7),l8,l9,c8,eE,fJ,ed))))))))).af (fun fv=>
 some (Sum.inr fv))))
 ((aS (ae l1),(0:Int)),(i0,l1),([]:aa),([]:aa),([]:aa),([]:aa),l3,([]:aa)))))))))
 (fun((fY,dm),fR,ik,kj,gI,eo,gT)=>
 (km (aS (ae eo)) (aS (ae eo)) 8).af (fun BQ=>
 (bk 0 BQ (ae (dk BQ (0:Int)))).af (fun _=>
 ak fR (
 ak ik (
 ak kj (
 ak gI (
 ak eo (
 ak gT (
 cH NN (fun(((fA,kI),qn,kl,iU,mO,jX,jY,gU):((Int×(List (Int×(Int×(Int×aa)))))×(aa×(aa×(aa×(aa×(aa×(aa×aa))))))))=>
 (cM gU 0 (ae gU)).af (fun nv=>
 (Aw ((fA,kI),nv)).af (fun g0=>
 ak jY (
 (cM ((g0::([]:aa))) 0 1).af (fun jt=>
 (mG (aH (ae jY) (ae jt)) 8).af (fun _=>
 (cM jX 0 (ae jX)).af (fun iK=>
 ak gU (
 (sF (iK,gU)).af (fun(b38,pF)=>
 aI (fw b38)
 (((fg mO (ae mO)).af (fun qq=>
 (fg jX (ae jX)).af (fun jH=>
 (fg (fj jY jt) (aH (ae jY) (ae jt))).af (fun mP=>
 some (qq,jH,mP))))).af (fun((iw,iy,oN):(aa×(aa×aa)))=>
 some (Sum.inr (iw,iy,oN))))
 ((bk 0 (ae gU) (ae pF)).af (fun _=>
 ak qn (
 ak kl (
 ak iU (
 ak mO (
 ak jX (
 (bk 0 (aH (ae jY) (ae jt)) (ae (fj jY jt))).af (fun _=>
 some (Sum.inl ((fA,kI),qn,kl,iU,mO,jX,fj jY jt,pF)))))))))))))))))))
 ((fY,dm),fR,ik,kj,gI,eo,gT,dk BQ (0:Int)))))))))))))))
theorem QC {D:aa} (h:lz D) {i:Nat} (hi:i<D.length):∃d:Nat,D[i]? =some (d:Int)/\D.getD i 0=(d:Int)/\(D.getD i 0).toNat=d/\1<=d/\d<=1048576:=by
 have e:=getD_some 0 hi;have hm:=h.2 _ (zap e);obtain⟨d,hd⟩:=iC (show 0<=D.getD i 0 by omega);exact⟨d,by rw[e,hd],hd,by rw[hd];rfl,by omega,by omega⟩
theorem sv {D:aa} {i:Nat} (hi:i<D.length):bQ D i=(D.getD i 0).toNat*bQ D (i+1):=by
 unfold bQ;rw[drop_cons (getD_some 0 hi),bh]
theorem rn (D:aa):bQ D D.length=1:=by simp[bQ,bh]
theorem I3 (D:aa):bQ D 0=bh D:=rfl
theorem Cc:∀{D:aa},(∀x∈D,1<=x)->0<bh D
 |[],_=>Nat.one_pos
 |x::l,h=>by
  have h1:=h x zaN;exact zbG (by omega) (Cc fun y hy=>h y (zax _ hy))
theorem agI {D:aa} (h:lz D) (i:Nat):0<bQ D i:=Cc fun x hx=>(h.2 x (zbh hx)).1
theorem uZ:∀{D:aa},(∀x∈D,1<=x)->dZ D=(bh D:Int)
 |[],_=>rfl
 |x::l,h=>by
  have h1:=h x zaN;rw[dZ,bh,uZ fun y hy=>h y (zax _ hy)];obtain⟨x,rfl⟩:=iC (show 0<=x by omega);simp
theorem WM {D:aa} {i j:Nat} (h:i<=j) (hj:j<=D.length):bQ D j∣bQ D i:=by
 obtain⟨k,rfl⟩:∃k,j=i+k:=⟨j - i,by omega⟩;induction k with
 |zero=>exact Nat.dvd_refl _
 |succ k ih=>
  refine zbo ?_ (ih (by omega) (by omega));rw[sv (i:=i+k) (by omega)];exact Nat.dvd_mul_left _ _
def tt (D:aa) (n n' k:Nat):aa:=bu D.length fun q=>if k<=q then gm D n' q else gm D n q
theorem aoH (D:aa) (n n':Nat):tt D n n' 0=cA D n':=gJ fun q _=>by simp
theorem aoI (D:aa) (n n':Nat):tt D n n' D.length=cA D n:=gJ fun q hq=>by simp;intro h;omega
theorem aca (D:aa) (n n' k:Nat):bK (tt D n n' (k+1)) k (gm D n' k)=tt D n n' k:=by
 unfold tt;rw[wC];refine gJ fun q _=>?_;by_cases e:q=k
 ·subst e;simp
 ·by_cases h:k<=q
  ·rw[if_neg e,if_pos (by omega),if_pos h]
  ·rw[if_neg e,if_neg (by omega),if_neg h]
theorem Ns (D:aa) (n n' k:Nat):ae (tt D n n' k)=D.length:=eO _ _
theorem EP {D:aa} {n n' k:Nat} (h:k<D.length):cW (tt D n n' (k+1)) k=some (gm D n k):=by
 unfold tt;rw[qe _ h,if_neg (by omega)]
theorem agA {n:Nat} (h:n<=1048577):lL .i64 (n:Int) 1=(n:Int) - 1:=su (by omega) (by omega)
theorem aiV {a k:Nat} (hk:0<k) (h:(a+1)%k≠0):(a+1)/k=a/k:=by
 rw[zbO,if_neg (fun hd=>h (zaR hd)),zba]
theorem aiW {a k:Nat} (hk:0<k) (h:(a+1)%k=0):(a+1)/k=a/k+1:=by
 rw[zbO,if_pos (zaC h)]
theorem aiP {D:aa} (hD:lz D) {n i:Nat} (hi:i<=D.length) (h:(n+1)%bQ D i≠0) {q:Nat} (hq:q<i):gm D (n+1) q=gm D n q:=by
 unfold gm;rw[aiV (agI hD _)];intro h0;exact h (zaR (zbo (WM hq hi) (zaC h0)))
theorem YO {D:aa} (hD:lz D) {n i:Nat} (hi:i<D.length) (h:(n+1)%bQ D (i+1)=0):
  (gm D n i+1<D.getD i 0->gm D (n+1) i=gm D n i+1/\(n+1)%bQ D i≠0)/\(¬gm D n i+1<D.getD i 0->gm D (n+1) i=0/\(n+1)%bQ D i=0):=by
 obtain⟨d,d1,d2,d3,d4,d5⟩:=QC hD hi;have hT:=agI hD (i+1);have e1:=aiW hT h;obtain⟨c,hc⟩:=zaC h;have ec:(n+1)/bQ D (i+1)=c:=by rw[hc,Nat.mul_div_cancel_left _ hT]
 have ai7:(n+1)%bQ D i=bQ D (i+1)*(c%d):=by rw[sv hi,d3,hc,zar d,Nat.mul_mod_mul_left]
 unfold gm;rw[d2,ec,ai7];simp only[zab];rw[ec] at e1;have cD:n/bQ D (i+1)%d<d:=zbr _ (by omega);have cI:c%d=if n/bQ D (i+1)%d+1<d then n/bQ D (i+1)%d+1 else 0:=by
  rw[e1,zbH];split
  ·rename_i hx;by_cases hd1:d=1
   ·omega
   ·rw[zat (show 1<d by omega),zat hx]
  ·by_cases hd1:d=1
   ·subst hd1;omega
   ·rw[zat (show 1<d by omega),show n/bQ D (i+1)%d+1=d by omega,Nat.mod_self]
 constructor
 ·intro hx;rw[cI,if_pos (by omega)];refine⟨by omega,?_⟩;have:=zbG hT (show 0<n/bQ D (i+1)%d+1 by omega);omega
 ·intro hx;rw[cI,if_neg (by omega)];exact⟨by omega,by simp⟩
theorem akj (x:aa×aa) (y:Bool×aa) (h:sF x=some y):Pv aM x=some y:=by
 obtain⟨D,ix⟩:=x;simp only[sF] at h;split at h
 ·rename_i hc;obtain⟨hD,hix,hn,hp⟩:=hc;rw[<-h];generalize oS D ix D.length=n at*
  subst hix;have hl:=hD.1;have hlen:(cA D n).length=D.length:=eO _ _;simp only[Pv,ak];rw[bE,aB];obtain⟨k,k1,k2,k3⟩:=Ww (fun j=>(n+1)%bQ D (D.length - (j+1))=0) D.length;have Mq:∀j,j<=k->(n+1)%bQ D (D.length - j)=0:=fun j hj=>by
   cases j with
   |zero=>rw[zbP,rn];omega
   |succ j=>exact k2 j (by omega)
  have xH:∀j,j<k->gm D (n+1) (D.length - (j+1))=0/\¬gm D n (D.length - (j+1))+1<D.getD (D.length - (j+1)) 0:=fun j hj=>by
   have hk:D.length - (j+1)<D.length:=by omega
   have h1:=Mq j (by omega);rw[show D.length - j=D.length - (j+1)+1 by omega] at h1;obtain⟨c1,c2⟩:=YO hD hk h1;by_cases hx:gm D n (D.length - (j+1))+1<D.getD (D.length - (j+1)) 0
   ·exact absurd (Mq (j+1) (by omega)) (c1 hx).2
   ·exact⟨(c2 hx).1,hx⟩
  have hd0:∀q,0<=gm D n q/\gm D n q<=1048576:=fun q=>by
   unfold gm;have h1:n/bQ D (q+1)%(D.getD q 0).toNat<=n/bQ D (q+1):=Nat.mod_le _ _;have h2:n/bQ D (q+1)<=n:=Nat.div_le_self _ _;omega
  have e0:lL .i64 (aS (ae D)) 1=(D.length:Int) - ((0:Nat):Int) - 1:=by rw[nl,agA (by omega)];omega
  rw[fS (fun j=>((D,(D.length:Int) - (j:Int) - 1),tt D n (n+1) (D.length - j))) (r:=if k=D.length then Sum.inl (cA D (n+1)) else Sum.inr (true,cA D (n+1))) k ?_ ?_ ?_ (eP (by omega))]
  ·by_cases hk:k=D.length
   ·rw[if_pos hk,jW];have hz:(n+1)%bh D=0:=by have:=Mq k (zae _);rwa[hk,zaT,I3] at this
    have Hf:¬n+1<bh D:=fun hx=>by rw[zat hx] at hz;omega
    rw[decide_eq_false Hf,z6 (by show ae (cA D (n+1))=ae (cA D n);unfold cA;rw[lG,lG]),aB]
   ·rw[if_neg hk,aby];have MA:=(k3.resolve_left hk);have Hf:n+1<bh D:=by
     rcases zaY (n+1) (bh D) with h|h
     ·exact h
     ·exfalso;have e:n+1=bh D:=by omega
      apply MA;rw[e,<-I3];exact zaR (WM (zbD _) (by omega))
    rw[decide_eq_true Hf]
  ·intro j hj;have hk:D.length - (j+1)<D.length:=by omega
   have ek:(D.length:Int) - j - 1=((D.length - (j+1):Nat):Int):=by omega
   obtain⟨s1,s2⟩:=xH j hj;have ji:=hd0 (D.length - (j+1));simp only
   rw[ek,show D.length - j=D.length - (j+1)+1 by omega,bS (zG (by omega)),rD (by rw[Ns];exact hk),aB,ja,EP hk,aB];simp only[aB,ja,EP hk];rw[fU (by omega) (by omega)];have eg:cW (bK (tt D n (n+1) (D.length - (j+1)+1)) (D.length - (j+1)) (gm D n (D.length - (j+1))+1)) (D.length - (j+1))=some (gm D n (D.length - (j+1))+1):=aaE (EP hk);rw[eg,aB,fq,getD_some 0 hk,aB,bN (d8 (by omega))]
   try simp only[aB,ja,eg]
   rw[aty,<-s1,aca,Ns,Ns,bE,aB,agA (by omega)];congr 4;omega
  ·by_cases hk:k=D.length
   ·rw[if_pos hk,hk];simp only
    rw[bN (HS (by omega)),zaT,aoH]
   ·rw[if_neg hk];have qR:D.length - (k+1)<D.length:=by omega
    have ek:(D.length:Int) - k - 1=((D.length - (k+1):Nat):Int):=by omega
    have h1:=Mq k (zae _);rw[show D.length - k=D.length - (k+1)+1 by omega] at h1;obtain⟨c1,c2⟩:=YO hD qR h1;have MA:=(k3.resolve_left hk);have hx:gm D n (D.length - (k+1))+1<D.getD (D.length - (k+1)) 0:=by
     rcases Decidable.em (gm D n (D.length - (k+1))+1<D.getD (D.length - (k+1)) 0) with h|h
     ·exact h
     ·exact absurd (c2 h).2 MA
    obtain⟨s1,s2⟩:=c1 hx;have ji:=hd0 (D.length - (k+1));simp only
    rw[ek,show D.length - k=D.length - (k+1)+1 by omega,bS (zG (by omega)),rD (by rw[Ns];exact qR),aB,ja,EP qR,aB];simp only[aB,ja,EP qR];rw[fU (by omega) (by omega)];have eg:cW (bK (tt D n (n+1) (D.length - (k+1)+1)) (D.length - (k+1)) (gm D n (D.length - (k+1))+1)) (D.length - (k+1))=some (gm D n (D.length - (k+1))+1):=aaE (EP qR);rw[eg,aB,fq,getD_some 0 qR,aB,bS (eB (by omega))];rw[<-s1,aca];have er:tt D n (n+1) (D.length - (k+1))=cA D (n+1):=gJ fun q hq=>by
     by_cases h:D.length - (k+1)<=q
     ·rw[if_pos h]
     ·rw[if_neg h,aiP hD (by omega) MA (by omega)]
    rw[er,z6 (by show ae (cA D (n+1))=ae (cA D n);unfold cA;rw[lG,lG]),aB];rfl
  ·rw[e0,zbP,aoI]
 ·cases h
theorem Hu {D:aa} {n i:Nat} (hi:i<D.length):(cA D n).getD i 0=gm D n i:=by
 rw[zaf,cA,lK _ hi];rfl
theorem NL {D:aa} (hD:lz D) {n:Nat} (hn:n<bh D):∀j,j<=D.length->oS D (cA D n) j=n/bQ D j
 |0,_=>by rw[I3,zby hn];rfl
 |j+1,hj=>by
  rw[oS,NL hD hn j (by omega),Hu (by omega),gm,zab,sv (by omega),zar (D.getD j 0).toNat,<-Nat.div_div_eq_div_mul,zar,zaW]
theorem TQ {D:aa} (hD:lz D) {n:Nat} (hn:n<bh D) (hp:bh D<=1048576):sF (D,cA D n)=some (decide (n+1<bh D),cA D (n+1)):=by
 have e:=NL hD hn D.length (zae _);rw[rn,Nat.div_one] at e;simp only[sF,e];rw[if_pos ⟨hD,trivial,hn,hp⟩]
theorem abd {D:aa} (hD:lz D) (n:Nat):Ew D (cA D n)=true:=by
 simp only[Ew,zac,decide_eq_true_eq];refine⟨eO _ _,fun i hi=>?_⟩;obtain⟨d,d1,d2,d3,d4,d5⟩:=QC hD hi;rw[Hu hi,gm,d3,d2];have:=zbr (n/bQ D (i+1)) (show 0<d by omega);omega
theorem NZ (n:Nat) (f:Nat->Int):fj (bu n f) [f n]=bu (n+1) f:=by
 unfold fj bu;rw[zbI,List.map_append];rfl
theorem QB {m:Int} {l:List bf} (h:fV (m,l)=true):lz (aV l)/\(1<=bh (aV l)/\bh (aV l)<=4096)/\(aV l).length<=8/\Li 4096 (aV l)=(bh (aV l):Int):=by
 obtain⟨_,hl,hp,_,hs⟩:=ul h;have hd:∀x∈aV l,1<=x/\x<=8:=fun x hx=>by
  obtain⟨i,hi⟩:=List.mem_iff_getElem?.1 hx;have fW:i<l.length:=by have:=HV hi;rwa[gw] at this
  obtain⟨p,M,e,_,_,h3,_⟩:=hs i fW;have:=rG l i;rw[e,zaf,hi] at this;simp only[Option.getD_some] at this;omega
 have hI:=uZ (D:=aV l) fun x hx=>(hd x hx).1;have ft:=Cc (D:=aV l) fun x hx=>(hd x hx).1;refine⟨⟨by rw[gw];omega,fun x hx=>by have:=hd x hx;omega⟩,⟨ft,by omega⟩,by rw[gw];omega,?_⟩;unfold Li;rw[Qd (by decide) _ 0 1 (fun x hx=>(hd x hx).1) (by decide) (by decide),za6,hI,zbd (by omega)]
theorem abc {D:aa} (hD:lz D):dk (ae D) (0:Int)=cA D 0:=by
 rw[ael];refine gJ fun i _=>?_;simp[gm]
theorem auv {m:Int} {l:List bf} {n:Nat} (hn:n<=1048576):mG (aH (ae (bz n)) 1) 8=some ():=rO (by simp only[aH,bz,lG,fe];omega)
theorem ajQ (x:Int×List bf) (y:aa×aa×aa) (h:t6 x=some y):Pf aM x=some y:=by
 obtain⟨m,l⟩:=x;simp only[t6,O9] at h;split at h
 ·rename_i hs;rw[<-h];obtain⟨hlen,eA⟩:=OM hs;simp only[Pf,ak];rw[show sC (m,l)=some (fV (m,l)) from if_pos hs,aB]
  cases hk:fV (m,l) with
  |false=>rw[bS (by rfl),if_neg (by simp)]
  |true=>
   rw[bN (by rfl),if_pos rfl];obtain⟨hm,hl,_,_,_⟩:=ul hk;obtain⟨hD,hp,hDl,kC⟩:=QB hk;rw[show wP (m,l)=some (aV l) from if_pos hlen,aB]
   rw[show bk 0 0 (ae ([]:aa))=some () from rfl]
   simp only[aB,bE];rw[fS (fun i=>((aS (ae l),(i:Int)),(m,l),([]:aa),([]:aa),([]:aa),bz i,aV l,([]:aa))) (r:=Sum.inl ((m,l),([]:aa),([]:aa),([]:aa),bz l.length,aV l,([]:aa))) l.length ?_ ?_ ?_ (eP (by omega))]
   ·rw[jW];simp only
    rw[uU (n:=ae (aV l)) (by simp only[ae,fe];omega),aB,Nn,bE,aB];rw[fS (fun n=>((m,l),([]:aa),([]:aa),([]:aa),bz l.length,aV l,(bu n fun n=>uk m l (cA (aV l) n)),cA (aV l) n)) (r:=gL m l) (bh (aV l) - 1) ?_ ?_ ?_ (eP (by omega))]
    ·intro n hn;simp only[d6,aB];rw[show Aw ((m,l),cA (aV l) n)=some (uk m l (cA (aV l) n)) from if_pos ⟨hk,abd hD n⟩]
     simp only[aB,O3,Nm,lG,show∀x:Int,ae [x]=1 from fun _=>rfl,bE,show mG (aH n 1) 8=some () from rO (by simp only[aH,fe];omega)]
     rw[TQ hD (by omega) (by omega),aB];simp only
     rw[bN (aq1 (by omega)),show bk 0 (ae (cA (aV l) n)) (ae (cA (aV l) (n+1)))=some () from by unfold cA;exact lV _ _ _,aB,NZ n fun n=>uk m l (cA (aV l) n)]
    ·simp only[d6,aB];generalize hq:bh (aV l) - 1=n;have hn:bh (aV l)=n+1:=by omega
     rw[show Aw ((m,l),cA (aV l) n)=some (uk m l (cA (aV l) n)) from if_pos ⟨hk,abd hD n⟩]
     simp only[aB,O3,Nm,lG,show∀x:Int,ae [x]=1 from fun _=>rfl,bE,show mG (aH n 1) 8=some () from rO (by simp only[aH,fe];omega)]
     rw[TQ hD (by omega) (by omega),aB];simp only
     rw[bS (aq0 (by omega)),NZ n fun n=>uk m l (cA (aV l) n)];simp only[mr,aB];rw[show aH n 1=ae (bu (n+1) fun n=>uk m l (cA (aV l) n)) from by rw[lG];rfl,mr,aB]
     simp only[aB,gL,hn]
    ·rw[abc hD];rfl
   ·intro i hi;simp only
    rw[bS (B5 hi)];simp only[aB,O3,Nm,show∀x:Int,ae [x]=1 from fun _=>rfl,bE,auv (m:=m) (l:=l) (show i<=1048576 by omega),iP (show i<=1048577 by omega)]
    rw[show fj (bz i) [(i:Int)]=bz (i+1) from NZ i _]
   ·simp only
    rw[bN (xV l)]
   ·rfl
 ·cases h
def Xm:aa×aa->Option Bool:=fun x=>if x.1.length<=1048576/\x.2.length<=1048576 then some (decide (x.1=x.2)) else none
def yw:aa×aa->Option Bool:=Xm
def j7 (x y:Int×List bf):Bool:=fV x&&(fV y&&(decide (x.1=y.1)&&decide (aV x.2=aV y.2)))
def Xo:(Int×List bf)×(Int×List bf)->Option Bool:=fun x=>if tS x.1<=1048576/\tS x.2<=1048576 then some (j7 x.1 x.2) else none
def yy:(Int×List bf)×(Int×List bf)->Option Bool:=Xo
def yz:bf×Int->Option (Int×Int×aa):=Jk
def ue (m:Int) (X:Nat->bF):Nat->bF
 |0=>fun _ _=>0
 |v+1=>fun i j=>(ue m X v i j+X v i j)%m
def Hy (m:Int) (s t:bf) (E:bF) (v:Nat):bF:=iL m t.1.toNat (iL m s.1.toNat (j4 (qB s v)) E) (qB t v)
def oM (m:Int) (l l':List bf):Nat->bF
 |0=>fun _ _=>1
 |i+1=>ue m (Hy m (l.getD i bO) (l'.getD i bO) (oM m l l' i)) (l.getD i bO).2.1.toNat
def MT (x y:Int×List bf):Int×Bool:=if j7 x y=true then(oM x.1 x.2 y.2 x.2.length 0 0,true) else(0,false)
def Xi:(Int×List bf)×(Int×List bf)->Option (Int×Bool):=fun x=>if tS x.1<=1048576/\tS x.2<=1048576 then some (MT x.1 x.2) else none
def wL:(Int×List bf)×(Int×List bf)->Option (Int×Bool):=Xi
def Ko:ar:=[(.one,[.list [.int .i64]]),(.one,[.list [.int .i64]])]
def U0:ar:=[(.one,[.bool])]
def ao3:aU:=[]
def KK:ar:=[(.agg,[.int .i64,.list [.int .i64,.int .i64,.int .i64,.list [.int .i64]]]),(.agg,[.int .i64,.list [.int .i64,.int .i64,.int .i64,.list [.int .i64]]])]
def Vl:ar:=[(.one,[.bool])]
def apl:aU:=[]
def KN:ar:=[(.agg,[.int .i64,.int .i64,.int .i64,.list [.int .i64]]),(.one,[.int .i64])]
def Vo:ar:=[(.agg,[.int .i64,.int .i64,.list [.int .i64]])]
def apo:aU:=[]
def J7:ar:=[(.agg,[.int .i64,.list [.int .i64,.int .i64,.int .i64,.list [.int .i64]]]),(.agg,[.int .i64,.list [.int .i64,.int .i64,.int .i64,.list [.int .i64]]])]
def UI:ar:=[(.one,[.int .i64]),(.one,[.bool])]
def aoP:aU:=[]
def Pq (NN:Nat):(aa×aa)->(Option Bool):=
 (fun((l0,l1):(aa×aa))=>
 aI (mn (aS (ae l0)) (aS (ae l1)))
 (some false)
 (cm (cH NN (fun((l2,l3,i4,i5):(aa×(aa×(Int×Int))))=>
 aI (cL i5 i4)
 ((di l2 i5).af (fun i6=>
 (di l3 i5).af (fun i7=>
 aI (mn i6 i7)
 (some (Sum.inr (Sum.inr false)))
 (some (Sum.inl (l2,l3,i4,br .i64 i5 1))))))
 (some (Sum.inr (Sum.inl ()))))
 (l0,l1,aS (ae l0),(0:Int)))
 (fun _=>
 some true)))
def PG (NN:Nat):((Int×(List (Int×(Int×(Int×aa)))))×(Int×(List (Int×(Int×(Int×aa))))))->(Option Bool):=
 (fun(((i0,l1),i2,l3):((Int×(List (Int×(Int×(Int×aa)))))×(Int×(List (Int×(Int×(Int×aa)))))))=>
 (sC (i0,l1)).af (fun b4=>
 aI (b4)
 ((sC (i2,l3)).af (fun b5=>
 aI (b5)
 (aI (c7 i0 i2)
 ((wP (i0,l1)).af (fun l6=>
 (wP (i2,l3)).af (fun l7=>
 (cM l6 0 (ae l6)).af (fun l8=>
 (cM l7 0 (ae l7)).af (fun l9=>
 (yw (l8,l9)).af (fun m4=>
 some m4))))))
 (some false))
 (some false)))
 (some false)))
def PJ (NN:Nat):((Int×(Int×(Int×aa)))×Int)->(Option (Int×(Int×aa))):=
 (fun(((i0,i1,i2,l3),i4):((Int×(Int×(Int×aa)))×Int))=>
 (yu (i0,i2)).af (fun(i5,i6,l7)=>
 cm ((bk 0 0 (ae (([]:aa)))).af (fun _=>
 ak l7 (
 cH NN (fun(((i8,i9),(fG,ie,eT,ed),(gB,gF),(fY,gG),fR,ik):((Int×Int)×((Int×(Int×(Int×aa)))×((Int×Int)×((Int×Int)×(aa×aa))))))=>
 aI (cL i9 fG)
 (cm (ak fR (
 ak ik (
 cH NN (fun(((e9,fH,jF),(jl,fI,fA,kI),(gS,jm),(pA,ig),jX,jY):((Int×(Int×Int))×((Int×(Int×(Int×aa)))×((Int×Int)×((Int×Int)×(aa×aa))))))=>
 aI (cL jF fA)
 ((t7 ((jl,fI,fA,kI),fH,e9,jF)).af (fun nr=>
 ak jY (
 (wN ((pA,ig,jY),fH,jF,nr)).af (fun nv=>
 ak jX (
 (bk 0 (ae jY) (ae nv)).af (fun _=>
 some (Sum.inl ((e9,fH,br .i64 jF 1),(jl,fI,fA,kI),(gS,jm),(pA,ig),jX,nv))))))))
 ((ak jX (
 ak jY (
 some (Sum.inl ((fH,e9),(jl,fI,fA,kI),(gS,jm),(pA,ig),jX,jY))))).af (fun qp=>
 some (Sum.inr qp))))
 ((i8,i9,(0:Int)),(fG,ie,eT,ed),(gB,gF),(fY,gG),fR,ik))))
 (fun((kS,qk),(lD,iJ,jo,jH),(ii,iS),(iT,gN),jZ,oO)=>
 ak jZ (
 ak oO (
 some (Sum.inl ((qk,br .i64 kS 1),(lD,iJ,jo,jH),(ii,iS),(iT,gN),jZ,oO))))))
 ((ak fR (
 ak ik (
 some (Sum.inl ((gB,gF),(fY,gG),fR,ik))))).af (fun mQ=>
 some (Sum.inr mQ))))
 ((i4,(0:Int)),(i0,i1,i2,l3),((0:Int),(0:Int)),(i5,i6),([]:aa),l7))))
 (fun((pB,nY),(rV,tf),n5,nz)=>
 (fg nz (ae nz)).af (fun oP=>
 some (rV,tf,oP)))))
def Pg (NN:Nat):((Int×(List (Int×(Int×(Int×aa)))))×(Int×(List (Int×(Int×(Int×aa))))))->(Option (Int×Bool)):=
 (fun(((i0,l1),i2,l3):((Int×(List (Int×(Int×(Int×aa)))))×(Int×(List (Int×(Int×(Int×aa)))))))=>
 (yy ((i0,l1),i2,l3)).af (fun b4=>
 aI (fw b4)
 (some ((0:Int),false))
 (cm ((bk 0 1 (ae (((1:Int)::([]:aa))))).af (fun _=>
 cH NN (fun(((i5,l6,i7,i8),(i9,c8),(ie,eT),ed):((Int×((List (Int×(Int×(Int×aa))))×(Int×Int)))×((Int×(List (Int×(Int×(Int×aa)))))×((Int×Int)×aa))))=>
 aI (cL i8 i7)
 (cm ((di l6 i8).af (fun(gB,gF,fY,dm)=>
 (di c8 i8).af (fun(iI,gM,e9,gI)=>
 (yu (fY,e9)).af (fun(jF,jl,jr)=>
 cm (ak ed (
 ak jr (
 cH NN (fun(((fA,gZ,qn,jm,pA),(ig,jX),(jV,nr),(kg,g0,kS,iK),(lD,iJ,jo,jH),(ii,iS),iy,oN):((Int×(Int×((List (Int×(Int×(Int×aa))))×(Int×Int))))×((Int×(List (Int×(Int×(Int×aa)))))×((Int×Int)×((Int×(Int×(Int×aa)))×((Int×(Int×(Int×aa)))×((Int×Int)×(aa×aa))))))))=>
 aI (cL gZ g0)
 (cm ((yz ((kg,g0,kS,iK),gZ)).af (fun(jp,ij,mQ)=>
 (cM mQ 0 (ae mQ)).af (fun ra=>
 (C0 (jp,ij,ra)).af (fun(nY,rV,mR)=>
 (cM mR 0 (ae mR)).af (fun n5=>
 (cM iy 0 (ae iy)).af (fun nz=>
 (yx (fA,(nY,rV,n5),jV,nr,nz)).af (fun(zt,vY,jI)=>
 (yz ((lD,iJ,jo,jH),gZ)).af (fun(BA,i59,lF)=>
 (cM jI 0 (ae jI)).af (fun rb=>
 (cM lF 0 (ae lF)).af (fun tm=>
 (yx (fA,(zt,vY,rb),BA,i59,tm)).af (fun(vZ,i64,BW)=>
 ak BW (
 ak iy (
 ak oN (
 cH NN (fun(((BD,qm,Ni,zu,zv,v5,tg),(BF,xT),(Es,Et),(v7,xO,BG,B1),(zw,MK,ML,B3),(Eu,Ev),tn,pG,wg):((Int×(Int×((List (Int×(Int×(Int×aa))))×(Int×(Int×(Int×Int))))))×((Int×(List (Int×(Int×(Int×aa)))))×((Int×Int)×((Int×(Int×(Int×aa)))×((Int×(Int×(Int×aa)))×((Int×Int)×(aa×(aa×aa)))))))))=>
 aI (cL tg v5)
 ((dB tg (ae wg)).af (fun Tg=>
 (cW wg (aH 0 Tg)).af (fun zx=>
 (dB tg (ae pG)).af (fun k92=>
 (cW pG (aH 0 k92)).af (fun zy=>
 (iM (br .i64 zy zx) BD).af (fun MP=>
 (dB tg (ae pG)).af (fun Th=>
 (cW pG (aH 0 Th)).af (fun i96=>
 ak wg (
 ak tn (
 (bk 0 (ae pG) (ae (bK pG (aH 0 Th) MP))).af (fun _=>
 some (Sum.inl ((BD,qm,Ni,zu,zv,v5,br .i64 tg 1),(BF,xT),(Es,Et),(v7,xO,BG,B1),(zw,MK,ML,B3),(Eu,Ev),tn,bK pG (aH 0 Th) MP,wg)))))))))))))
 ((ak tn (
 ak pG (
 some (Sum.inl ((qm,BD,Ni,zu,zv),(BF,xT),(Es,Et),(v7,xO,BG,B1),(zw,MK,ML,B3),(Eu,Ev),tn,pG))))).af (fun EJ=>
 some (Sum.inr EJ))))
 ((fA,gZ,qn,jm,pA,aS (ae BW),(0:Int)),(ig,jX),(jV,nr),(kg,g0,kS,iK),(lD,iJ,jo,jH),(ii,iS),iy,oN,BW)))))))))))))))
 (fun((SH,SI,EB,SD,SE),(SF,EC),(amd,ame),(amf,aa9,aba,Tj),(Hq,amh,ami,HK),(amj,amk),BT,BU)=>
 ak BT (
 ak BU (
 some (Sum.inl ((SI,br .i64 SH 1,EB,SD,SE),(SF,EC),(amd,ame),(amf,aa9,aba,Tj),(Hq,amh,ami,HK),(amj,amk),BT,BU))))))
 ((ak iy (
 ak oN (
 some (Sum.inl ((pA,fA,qn,jm),(ig,jX),(jV,nr),(ii,iS),iy,oN))))).af (fun Tl=>
 some (Sum.inr Tl))))
 ((i5,(0:Int),l6,i7,i8),(i9,c8),(ie,eT),(gB,gF,fY,dm),(iI,gM,e9,gI),(jF,jl),ed,jr))))
 (fun((aml,amm,M8,amn),(amo,Tm),(avi,avj),(amp,MI),avn,abF)=>
 ak abF (
 some (Sum.inl ((aml,amm,M8,amn),(amo,Tm),(amp,MI),abF))))))))
 (fun((zq,zr,M9,amq),(amr,Na),(ams,amt),HL)=>
 ak HL (
 some (Sum.inl ((zr,M9,amq,br .i64 zq 1),(amr,Na),(ams,amt),HL)))))
 ((ak ed (
 some (Sum.inl ((ie,eT),ed)))).af (fun Nb=>
 some (Sum.inr Nb))))
 ((i0,l1,aS (ae l1),(0:Int)),(i2,l3),((1:Int),(1:Int)),((1:Int)::([]:aa)))))
 (fun((avk,avl),xQ)=>
 (dB (0:Int) (ae xQ)).af (fun amY=>
 (cW xQ (aH 0 amY)).af (fun amu=>
 some (amu,true)))))))
theorem Y3 {x y:aa} (h:x.length=y.length):(x=y)↔∀k,k<x.length->x.getD k 0=y.getD (0+k) 0:=by
 constructor
 ·rintro rfl k _;rw[zav]
 ·intro h1;apply zal;intro k;by_cases hk:k<x.length
  ·have:=h1 k hk;rw[zav] at this;rw[getD_some 0 hk,getD_some 0 (show k<y.length by omega),this]
  ·rw[zad (by omega),zad (by omega)]
theorem aj9 (x:aa×aa) (y:Bool) (h:yw x=some y):Pq aM x=some y:=by
 obtain⟨D,ix⟩:=x;simp only[yw,Xm] at h;split at h
 ·rename_i hc;obtain⟨h1,h2⟩:=hc;rw[<-h];simp only[Pq];by_cases hl:D.length=ix.length
  ·rw[bN (H6 (by simp only[nl,hl]))];rw[aoB D (fun(_:Unit) i=>(D,ix,aS (ae D),(i:Int))) (fun _ _=>True) (fun i _ v=>if decide (v=ix.getD i 0)=true then some () else none) (Sum.inr false) (fun _=>Sum.inl ()) ?_ ?_ ?_ (s:=()) trivial ?_ (eP (by omega))]
   ·rw[aam (fun i v=>decide (v=ix.getD i 0)) 0];by_cases hk:∀k,k<D.length->decide (D.getD k 0=ix.getD (0+k) 0)=true
    ·rw[if_pos hk,decide_eq_true ((Y3 hl).2 fun k dj=>of_decide_eq_true (hk k dj))];rfl
    ·rw[if_neg hk,decide_eq_false (fun h=>hk fun k dj=>decide_eq_true ((Y3 hl).1 h k dj))];rfl
   all_goals try simp only
   ·intro i _ v hv _;have hi:=HV hv;rw[bS (zH hv),fq,hv,aB,fq,getD_some 0 (show i<ix.length by omega),aB];by_cases q:v=ix.getD i 0
    ·rw[bN (H6 q),if_pos (decide_eq_true q),H7 hv (by omega)]
    ·rw[bS (NG q),if_neg (fun h=>q (of_decide_eq_true h))]
   ·intros;trivial
   ·intro _ _;rw[bN (xV D)]
   ·rfl
  ·rw[bS (NG (by simp only[nl];omega)),decide_eq_false (fun e=>hl (by rw[e]))]
 ·cases h
theorem akv (x:(Int×List bf)×(Int×List bf)) (y:Bool) (h:yy x=some y):PG aM x=some y:=by
 obtain⟨⟨m,l⟩,m',l'⟩:=x;simp only[yy,Xo] at h;split at h
 ·rename_i hc;obtain⟨h1,h2⟩:=hc;rw[<-h];have hl:=(OM h1).1;have eN:=(OM h2).1;simp only[PG,j7];rw[show sC (m,l)=some (fV (m,l)) from if_pos h1,aB]
  cases fV (m,l) with
  |false=>rfl
  |true=>
   rw[bS (by rfl),show sC (m',l')=some (fV (m',l')) from if_pos h2,aB]
   cases fV (m',l') with
   |false=>rfl
   |true=>
    rw[bS (by rfl)];by_cases e:m=m'
    ·rw[bS (A8 e),show wP (m,l)=some (aV l) from if_pos hl,aB,show wP (m',l')=some (aV l') from if_pos eN,aB,d6,aB,d6,aB,
      show yw (aV l,aV l')=some (decide (aV l=aV l')) from if_pos ⟨by rw[gw];exact hl,by rw[gw];exact eN⟩,aB,decide_eq_true e]
     rfl
    ·rw[bN (xf e),decide_eq_false e];rfl
 ·cases h
theorem aky (x:bf×Int) (y:Int×Int×aa) (h:yz x=some y):PJ aM x=some y:=by
 obtain⟨s,v⟩:=x;simp only[yz,Jk] at h;split at h
 ·rename_i hc;obtain⟨hs,hv⟩:=hc;obtain⟨a,p,c,M,rfl,ha,hp,hc,eM⟩:=afR hs;obtain⟨v,rfl⟩:=iC hv.1;rw[<-h,Cv eM];simp only[zab];have gR:v<p:=by have:=hv.2;simp only at this;omega
  have hac:a*c<=64*64:=zak ha hc;generalize hW:(fun i j=>M (i*p+v) j:bF)=W;simp only[PJ,NH (r:=a) (c:=c) (by omega) (by omega) (by omega),aB,bE,ak];rw[show bk 0 0 (ae ([]:aa))=some () from rfl,aB]
  rw[fS (fun i=>(((v:Int),(i:Int)),((a:Int),(p:Int),(c:Int),aX (a*p) c M),((0:Int),(0:Int)),((a:Int),(c:Int)),([]:aa),aX a c (pK W i 0))) (r:=Sum.inl (((0:Int),(0:Int)),((a:Int),(c:Int)),([]:aa),aX a c W)) a ?_ ?_ ?_ (eP (by omega))]
  ·rw[jW];simp only[mr,aB]
  ·intro i hi;simp only
   rw[bS (tq hi)];rw[fS (fun j=>(((v:Int),(i:Int),(j:Int)),((a:Int),(p:Int),(c:Int),aX (a*p) c M),((0:Int),(0:Int)),((a:Int),(c:Int)),([]:aa),aX a c (pK W i j))) (r:=Sum.inl (((i:Int),(v:Int)),((a:Int),(p:Int),(c:Int),aX (a*p) c M),((0:Int),(0:Int)),((a:Int),(c:Int)),([]:aa),aX a c (pK W (i+1) 0))) c ?_ ?_ ?_ (eP (by omega))]
   ·rw[jW];simp only[iP (show i<=1048577 by omega)]
   ·intro j hj;simp only
    rw[bS (tq hj),afQ ha hp hc eM hi gR hj,aB,Og (by omega) (by omega) (by omega) hi hj,aB];rw[show M (i*p+v) j=W i j by rw[<-hW],ado];simp only[Rh,aB,iP (show j<=1048577 by omega)]
   ·simp only
    rw[bN (r6 (zae c)),adn]
   ·rfl
  ·simp only
   rw[bN (r6 (zae a)),adm]
  ·rw[adl];rfl
 ·cases h
theorem aay (r c:Nat) (M:bF):aX r c M=bu (r*c) fun n=>M (n/c) (n%c):=rfl
theorem XG {m:Int} (hm:eW m) (X:Nat->bF):∀v i j,eU m (ue m X v i j)
 |0,_,_=>⟨za7 _,by have:=hm.1;show(0:Int)<m;omega⟩
 |v+1,_,_=>sP hm _
theorem abi {m:Int} (hm:eW m) (l l':List bf):∀i a b,eU m (oM m l l' i a b)
 |0,_,_=>⟨by show(0:Int)<=1;omega,by have:=hm.1;show(1:Int)<m;omega⟩
 |i+1,_,_=>XG hm _ _ _ _
def vr (m:Int) (N X:Nat->Int) (k:Nat):Nat->Int:=fun q=>if q<k then(N q+X q)%m else N q
theorem ahB (m:Int) (n:Nat) (N X:Nat->Int):bu n (vr m N X 0)=bu n N:=gJ fun q _=>by simp[vr]
theorem ahD (m:Int) (n:Nat) (N X:Nat->Int):bu n (vr m N X n)=bu n fun q=>(N q+X q)%m:=gJ fun q hq=>by simp[vr,hq]
theorem ahC (m:Int) (N X:Nat->Int) (k:Nat):vr m N X k k=N k:=by simp[vr]
theorem ahE {m:Int} {n k:Nat} (N X:Nat->Int):bK (bu n (vr m N X k)) k ((N k+X k)%m)=bu n (vr m N X (k+1)):=by
 rw[wC];refine gJ fun q _=>?_;unfold vr;by_cases e:q=k
 ·subst e;simp
 ·by_cases h:q<k
  ·rw[if_neg e,if_pos h,if_pos (by omega)]
  ·rw[if_neg e,if_neg h,if_neg (by omega)]
theorem ahy {m a b:Int} (hm:eW m) (ha:eU m a) (hb:eU m b):iM (br .i64 a b) m=some ((a+b)%m):=by
 obtain⟨a1,a2⟩:=ha;obtain⟨b1,b2⟩:=hb;have:=hm.2;have:=hm.1;rw[fU (by omega) (by omega),Ur (by omega) (by omega)]
theorem XL {m m':Int} {l l':List bf} (h:j7 (m,l) (m',l')=true):fV (m,l)=true/\fV (m',l')=true/\m=m'/\aV l=aV l'/\l.length=l'.length:=by
 simp only[j7,zac,decide_eq_true_eq] at h;obtain⟨h1,h2,h3,h4⟩:=h;exact⟨h1,h2,h3,h4,by rw[<-gw l,<-gw l',h4]⟩
theorem atM {m:Int} {l l':List bf} (h:j7 (m,l) (m,l')=true) {i:Nat} (hi:i<l.length):
  ∃(p:Nat) (M M':bF),l[i]? =some ((cg l i:Int),(p:Int),(cg l (i+1):Int),aX (cg l i*p) (cg l (i+1)) M)/\
   l'[i]? =some ((cg l' i:Int),(p:Int),(cg l' (i+1):Int),aX (cg l' i*p) (cg l' (i+1)) M')/\
   cg l i<=32/\cg l (i+1)<=32/\cg l' i<=32/\cg l' (i+1)<=32/\p<=8/\eR m (cg l i*p) (cg l (i+1)) M/\eR m (cg l' i*p) (cg l' (i+1)) M'/\
   M=dD (cg l (i+1)) (aX (cg l i*p) (cg l (i+1)) M)/\M'=dD (cg l' (i+1)) (aX (cg l' i*p) (cg l' (i+1)) M')/\
   oM m l l' (i+1)=ue m (fun v=>iL m (cg l' i) (iL m (cg l i) (j4 (fun i j=>M (i*p+v) j)) (oM m l l' i)) (fun i j=>M' (i*p+v) j)) p:=by
 obtain⟨h1,h2,_,h4,h5⟩:=XL h;obtain⟨_,_,_,_,s1⟩:=ul h1;obtain⟨_,_,_,_,s2⟩:=ul h2;obtain⟨p,M,e,a1,a2,a3,a4,a5⟩:=s1 i hi;obtain⟨p',M',e',b1,b2,b3,b4,b5⟩:=s2 i (by omega);have hp:p=p':=by
  have q1:=rG l i;have q2:=rG l' i;rw[h4,q2,e,e'] at q1;simp only at q1;omega
 subst hp;refine⟨p,M,M',by rw[getD_some bO hi,e],by rw[getD_some bO (show i<l'.length by omega),e'],a1,a2,b1,b2,a3.2,a4,b4,a5,b5,?_⟩;have hx:∀v,Hy m (l.getD i bO) (l'.getD i bO) (oM m l l' i) v=iL m (cg l' i) (iL m (cg l i) (j4 (fun i j=>M (i*p+v) j)) (oM m l l' i)) (fun i j=>M' (i*p+v) j):=fun v=>by
  rw[Hy,e,e',Cv a5,Cv b5];simp only[zab]
 rw[oM,e];simp only[zab];congr 1;funext v;rw[<-hx,e,e']
theorem amI {m:Int} {b p c b' c' v:Nat} {M M' E:bF} (hm:eW m) (h1:b<=32) (h2:c<=32) (h3:b'<=32) (h4:c'<=32) (hp:p<=8) (hM:eR m (b*p) c M) (nf:eR m (b'*p) c' M') (hE:∀i j,eU m (E i j)) (hv:v<p):
  Az (m,((c:Int),(b:Int),aX c b (j4 (fun i j=>M (i*p+v) j))),((b:Int),(b':Int),aX b b' E))=some ((c:Int),(b':Int),aX c b' (iL m b (j4 (fun i j=>M (i*p+v) j)) E))/\
  Az (m,((c:Int),(b':Int),aX c b' (iL m b (j4 (fun i j=>M (i*p+v) j)) E)),((b':Int),(c':Int),aX b' c' (fun i j=>M' (i*p+v) j)))=some ((c:Int),(c':Int),aX c c' (iL m b' (iL m b (j4 (fun i j=>M (i*p+v) j)) E) (fun i j=>M' (i*p+v) j))):=by
 have q1:c*b<=32*32:=zak h2 h1;have q2:b*b'<=32*32:=zak h1 h3;have q3:c*b'<=32*32:=zak h2 h3;have q4:b'*c'<=32*32:=zak h3 h4;have q5:c*c'<=32*32:=zak h2 h4;exact⟨TP hm (by omega) (by omega) (by omega) (by omega) (by omega) (by omega) (fun i hi j hj=>UB hM hv hj hi) (fun i _ j _=>hE i j),
  TP hm (by omega) (by omega) (by omega) (by omega) (by omega) (by omega) (fun i _ j _=>DK hm _ _ _) (fun i hi j hj=>UB nf hv hi hj)⟩
theorem ajS (x:(Int×List bf)×(Int×List bf)) (y:Int×Bool) (h:wL x=some y):Pg aM x=some y:=by
 obtain⟨⟨m,l⟩,m',l'⟩:=x;simp only[wL,Xi] at h;split at h
 ·rename_i hc;rw[<-h];simp only[Pg,MT,ak];rw[show yy ((m,l),(m',l'))=some (j7 (m,l) (m',l')) from if_pos hc,aB]
  cases hk:j7 (m,l) (m',l') with
  |false=>rw[bS (by rfl),if_neg (by simp)]
  |true=>
   rw[bN (by rfl),if_pos rfl];obtain⟨k1,k2,rfl,k4,k5⟩:=XL hk;obtain⟨hm,hl,_,hb,_⟩:=ul k1;obtain⟨_,eN,_,bB,_⟩:=ul k2;rw[show bk 0 1 (ae [(1:Int)])=some () from rfl,aB]
   rw[fS (fun i=>((m,l,aS (ae l),(i:Int)),(m,l'),((cg l i:Int),(cg l' i:Int)),aX (cg l i) (cg l' i) (oM m l l' i))) (r:=Sum.inl (((1:Int),(1:Int)),aX 1 1 (oM m l l' l.length))) l.length ?_ ?_ ?_ (eP (by omega))]
   ·rw[jW];simp only
    rw[show dB 0 (ae (aX 1 1 (oM m l l' l.length)))=some 0 from rfl,aB,ja,show cW (aX 1 1 (oM m l l' l.length)) 0=some (oM m l l' l.length 0 0) from rfl,aB]
   ·intro i hi;obtain⟨p,M,M',e1,e2,h1,h2,h3,h4,hp,hM,nf,eM,eM',hE⟩:=atM hk hi;have alg:=abi hm l l' i;have q5:cg l (i+1)*cg l' (i+1)<=32*32:=zak h2 h4;simp only
    rw[bS (B5 hi),fq,e1,aB];simp only
    rw[fq,e2,aB,NH (by omega) (by omega) (by omega),aB];simp only[bE,aB];rw[hE];generalize oM m l l' i=E at*
    generalize cg l i=b at*
    generalize cg l' i=b' at*
    generalize cg l (i+1)=c at*
    generalize cg l' (i+1)=c' at*
    generalize hX:(fun v=>iL m b' (iL m b (j4 (fun i j=>M (i*p+v) j)) E) (fun i j=>M' (i*p+v) j):Nat->bF)=X;rw[fS (fun v=>((m,(v:Int),l,aS (ae l),(i:Int)),(m,l'),((b:Int),(b':Int)),((b:Int),(p:Int),(c:Int),aX (b*p) c M),((b':Int),(p:Int),(c':Int),aX (b'*p) c' M'),((c:Int),(c':Int)),aX b b' E,aX c c' (ue m X v))) (r:=Sum.inl (((i:Int),m,l,aS (ae l)),(m,l'),((b:Int),(b':Int)),((c:Int),(c':Int)),aX b b' E,aX c c' (ue m X p))) p ?_ ?_ ?_ (eP (by omega))]
    ·rw[jW];simp only[bE,aB];rw[jW];simp only[bE,aB,iP (show i<=1048577 by omega)]
    ·intro v hv;simp only
     rw[bS (tq hv),show yz (((b:Int),(p:Int),(c:Int),aX (b*p) c M),(v:Int))=_ from abM (by omega) (by omega) (by omega) eM hv,aB]
     simp only[d6,aB];rw[show C0 ((b:Int),(c:Int),aX b c fun i j=>M (i*p+v) j)=_ from agV (by omega) (by omega) (by have:b*c<=32*32:=zak h1 h2;omega),aB]
     simp only[d6,aB];obtain⟨m1,m2⟩:=amI hm h1 h2 h3 h4 hp hM nf alg hv;have m1':=m1;rw[show yx (m,((c:Int),(b:Int),aX c b (j4 (fun i j=>M (i*p+v) j))),((b:Int),(b':Int),aX b b' E))=_ from m1,aB]
     simp only
     rw[show yz (((b':Int),(p:Int),(c':Int),aX (b'*p) c' M'),(v:Int))=_ from abM (by omega) (by omega) (by omega) eM' hv,aB]
     simp only[d6,aB];rw[show yx (m,((c:Int),(b':Int),aX c b' (iL m b (j4 (fun i j=>M (i*p+v) j)) E)),((b':Int),(c':Int),aX b' c' (fun i j=>M' (i*p+v) j)))=_ from m2,aB]
     simp only[bE,aB];rw[show iL m b' (iL m b (j4 (fun i j=>M (i*p+v) j)) E) (fun i j=>M' (i*p+v) j)=X v from by rw[<-hX]]
     have alm:∀i j,eU m (X v i j):=fun i j=>by rw[<-hX];exact DK hm _ _ _
     have alk:=XG hm X v;rw[fS (fun k=>((m,(v:Int),l,aS (ae l),(i:Int),aS (ae (aX c c' (X v))),(k:Int)),(m,l'),((b:Int),(b':Int)),((b:Int),(p:Int),(c:Int),aX (b*p) c M),((b':Int),(p:Int),(c':Int),aX (b'*p) c' M'),((c:Int),(c':Int)),aX b b' E,bu (c*c') (vr m (fun n=>ue m X v (n/c') (n%c')) (fun n=>X v (n/c') (n%c')) k),bu (c*c') (fun n=>X v (n/c') (n%c'))))
      (r:=Sum.inl (((v:Int),m,l,aS (ae l),(i:Int)),(m,l'),((b:Int),(b':Int)),((b:Int),(p:Int),(c:Int),aX (b*p) c M),((b':Int),(p:Int),(c':Int),aX (b'*p) c' M'),((c:Int),(c':Int)),aX b b' E,aX c c' (ue m X (v+1)))) (c*c') ?_ ?_ ?_ (eP (by omega))]
     ·rw[jW];simp only[bE,aB,iP (show v<=1048577 by omega)]
     ·intro k qh;simp only
      rw[bS (by rw[aay,lG];exact tq qh),uo _ qh,aB,ja,qe _ qh,aB,uo _ qh,aB,ja,qe _ qh,aB,ahC,ahy hm (alk _ _) (alm _ _),aB];simp only[aB,ja,qe _ qh];rw[ahE (fun n=>ue m X v (n/c') (n%c')) (fun n=>X v (n/c') (n%c'))];simp only[lV,bE,aB,iP (show k<=1048577 by omega)]
     ·simp only
      rw[bN (by rw[aay,lG];exact r6 (zae _)),ahD]
      try simp only[bE,aB]
      rfl
     ·rw[ahB];rfl
    ·simp only
     rw[bN (r6 (zae p))]
    ·rfl
   ·simp only
    rw[bN (xV l),hb,show cg l' l.length=1 from by rw[k5];exact bB]
    first|rfl|(simp only[bE,aB];rfl)
   ·rfl
 ·cases h
def jO:Int×Int×Int->Bool:=fun((k,p,n):Int×Int×Int)=>
 if k=1 then decide (p=0/\n=0) else if k=2 then dJ p&&decide (n=0) else if k=3\/k=4\/k=5 then decide ((1<=p/\p<=1000000)/\n=0)
 else if k=6 then decide (p=0/\1<=n/\n<=20) else if k=7 then dJ p&&decide (1<=n/\n<=6) else if k=8 then dJ p&&decide (p≠2/\n=0) else false
def mA:Int×Int×Int->Int:=fun((k,p,n):Int×Int×Int)=>if k=7 then n else if k=8 then 4 else 1
def cB (r:Int×Int×Int):Nat:=(mA r).toNat
def fT:Int×Int×Int->Int:=fun((k,p,n):Int×Int×Int)=>if k=1 then 1 else if k=3\/k=4\/k=5 then p else if k=6 then 2^n.toNat - 1 else p - 1
def uP (t v:Int):Bool:=decide (0<=v/\v<=t)
def oE (r:Int×Int×Int) (x:aa):Bool:=decide (x.length=cB r)&&x.all (uP (fT r))
def Jg:Int×Int×Int->aa:=fun((k,p,n):Int×Int×Int)=>if k=4 then[p] else dk (cB (k,p,n)) 0
def EY:Int×Int×Int->aa:=fun((k,p,n):Int×Int×Int)=>bK (dk (cB (k,p,n)) 0) 0 (if k=4 then 0 else if k=5\/k=6 then fT (k,p,n) else 1)
def sm:Nat->(Nat->Int)->Int
 |0,_=>0
 |n+1,f=>sm n f+f n
def kW (om:Bool) (x y:Nat->Int) (t i j:Nat):Int:=if i+j=t then x i*y j else if om=true/\i+j=t+4 then -(x i*y j) else 0
def mX (w:Nat) (f:Nat->Int):aa:=(List.range w).map f
def dt (x:aa):Nat->Int:=fun i=>x.getD i 0
def uq (p:Int) (om:Bool) (w:Nat) (x y:Nat->Int):aa:=mX w fun t=>sm w (fun i=>sm w (fun j=>kW om x y t i j))%p
def sd:Int×Int×Int->Int->Int->Int:=fun((k,p,n):Int×Int×Int) a b=>
 if k=1\/k=6 then((a.toNat&&&b.toNat:Nat):Int) else if k=2 then a*b%p else if k=3 then min (a*b) p else if k=4 then min (a+b) p else min a b
def qu (r:Int×Int×Int) (x y:aa):aa:=if r.1=7\/r.1=8 then uq r.2.1 (decide (r.1=8)) (cB r) (dt x) (dt y) else[sd r (dt x 0) (dt y 0)]
def CP:Int×Int×Int->Option Bool:=fun r=>some (jO r)
def qE:Int×Int×Int->Option Int:=fun r=>some (mA r)
def CZ:Int×Int×Int->Option Int:=fun r=>if jO r=true then some (fT r) else none
def CT:(Int×Int×Int)×aa->Option Bool:=fun((r,x):(Int×Int×Int)×aa)=>if jO r=true/\x.length<=9223372036854775806 then some (x.all (uP (fT r))) else none
def C1:Int×Int×Int->Option aa:=fun r=>if jO r=true then some (Jg r) else none
def Av:(Int×Int×Int)×aa×aa×aa->Option aa:=fun((r,l,x,y):(Int×Int×Int)×aa×aa×aa)=>
 if(jO r=true/\(r.1=7\/r.1=8))/\l.length=cB r/\oE r x=true/\oE r y=true then some (qu r x y) else none
def CX:(Int×Int×Int)×aa×aa×aa->Option aa:=fun((r,l,x,y):(Int×Int×Int)×aa×aa×aa)=>
 if jO r=true/\l.length=cB r/\oE r x=true/\oE r y=true then some (qu r x y) else none
def Kc:ar:=[(.agg,[.int .i64,.int .i64,.int .i64])]
def UM:ar:=[(.one,[.bool])]
def aoS:aU:=[]
def KH:ar:=[(.agg,[.int .i64,.int .i64,.int .i64])]
def Vi:ar:=[(.one,[.int .i64])]
def api:aU:=[]
def KF:ar:=[(.agg,[.int .i64,.int .i64,.int .i64])]
def Vg:ar:=[(.one,[.int .i64])]
def apg:aU:=[]
def Ks:ar:=[(.agg,[.int .i64,.int .i64,.int .i64]),(.one,[.list [.int .i64]])]
def U4:ar:=[(.one,[.bool])]
def ao7:aU:=[]
def KI:ar:=[(.agg,[.int .i64,.int .i64,.int .i64])]
def Vj:ar:=[(.one,[.list [.int .i64]])]
def apj:aU:=[]
def Kw:ar:=[(.agg,[.int .i64,.int .i64,.int .i64]),(.one,[.list [.int .i64]]),(.one,[.list [.int .i64]]),(.one,[.list [.int .i64]])]
def U8:ar:=[(.one,[.list [.int .i64]])]
def Ny:aU:=[[],[some .bc]]
def Kx:ar:=[(.agg,[.int .i64,.int .i64,.int .i64]),(.one,[.list [.int .i64]]),(.one,[.list [.int .i64]]),(.one,[.list [.int .i64]])]
def U9:ar:=[(.one,[.list [.int .i64]])]
def Nz:aU:=[[],[some .bc]]
def Pj (NN:Nat):(Int×(Int×Int))->(Option Bool):=
 (fun((i0,i1,i2):(Int×(Int×Int)))=>
 aI (c7 i0 (1:Int))
 (aI (c7 i1 (0:Int))
 (some (c7 i2 (0:Int)))
 (some false))
 (aI (c7 i0 (2:Int))
 ((vi i1).af (fun b3=>
 aI (b3)
 (some (c7 i2 (0:Int)))
 (some false)))
 (cm (aI (c7 i0 (3:Int))
 (some (Sum.inl ((true,i0),i0,i1,i2)))
 (aI (c7 i0 (4:Int))
 (some (Sum.inl ((true,i0),i0,i1,i2)))
 (some (Sum.inl ((c7 i0 (5:Int),i0),i0,i1,i2)))))
 (fun((b4,i5),i6,i7,i8)=>
 aI (b4)
 (aI (iz (1:Int) i7)
 (aI (iz i7 (1000000:Int))
 (some (c7 i8 (0:Int)))
 (some false))
 (some false))
 (aI (c7 i5 (6:Int))
 (aI (c7 i7 (0:Int))
 (aI (iz (1:Int) i8)
 (some (iz i8 (20:Int)))
 (some false))
 (some false))
 (aI (c7 i5 (7:Int))
 ((vi i7).af (fun b9=>
 aI (b9)
 (aI (iz (1:Int) i8)
 (some (iz i8 (6:Int)))
 (some false))
 (some false)))
 (aI (c7 i5 (8:Int))
 ((vi i7).af (fun m4=>
 aI (m4)
 (aI (mn i7 (2:Int))
 (some (c7 i8 (0:Int)))
 (some false))
 (some false)))
 (some false))))))))
def PE (NN:Nat):(Int×(Int×Int))->(Option Int):=
 (fun((i0,i1,i2):(Int×(Int×Int)))=>
 aI (c7 i0 (7:Int))
 (some i2)
 (aI (c7 i0 (8:Int))
 (some (4:Int))
 (some (1:Int))))
def Xs (NN:Nat):(Int×(Int×Int))->(Option Int):=
 (fun((i0,i1,i2):(Int×(Int×Int)))=>
 aI (c7 i0 (1:Int))
 (some (1:Int))
 (cm (aI (c7 i0 (3:Int))
 (some (Sum.inl ((true,i0),i0,i1,i2)))
 (aI (c7 i0 (4:Int))
 (some (Sum.inl ((true,i0),i0,i1,i2)))
 (some (Sum.inl ((c7 i0 (5:Int),i0),i0,i1,i2)))))
 (fun((b3,i4),i5,i6,i7)=>
 aI (b3)
 (some i6)
 (aI (c7 i4 (6:Int))
 ((Ct .i64 (1:Int) i7).af (fun i8=>
 some (lL .i64 i8 1)))
 (some (lL .i64 i6 1))))))
def Pt (NN:Nat):((Int×(Int×Int))×aa)->(Option Bool):=
 (fun(((i0,i1,i2),l3):((Int×(Int×Int))×aa))=>
 (CZ (i0,i1,i2)).af (fun i4=>
 cm (cH NN (fun((i5,l6,i7,i8):(Int×(aa×(Int×Int))))=>
 aI (cL i8 i7)
 ((di l6 i8).af (fun i9=>
 aI (cL i9 (0:Int))
 (some (Sum.inr (Sum.inr false)))
 (aI (cL i5 i9)
 (some (Sum.inr (Sum.inr false)))
 (some (Sum.inl (i5,l6,i7,br .i64 i8 1))))))
 (some (Sum.inr (Sum.inl ()))))
 (i4,l3,aS (ae l3),(0:Int)))
 (fun _=>
 some true)))
def PF (NN:Nat):(Int×(Int×Int))->(Option aa):=
 (fun((i0,i1,i2):(Int×(Int×Int)))=>
 (qE (i0,i1,i2)).af (fun i3=>
 (km i3 i3 8).af (fun k4=>
 cm (aI (c7 i0 (4:Int))
 ((dB (0:Int) k4).af (fun k5=>
 (cW (dk k4 (0:Int)) (aH 0 k5)).af (fun i6=>
 (bk 0 k4 (ae (bK (dk k4 (0:Int)) (aH 0 k5) i1))).af (fun _=>
 some (Sum.inl (bK (dk k4 (0:Int)) (aH 0 k5) i1))))))
 ((bk 0 k4 (ae (dk k4 (0:Int)))).af (fun _=>
 some (Sum.inl (dk k4 (0:Int))))))
 (fun l7=>
 (fg l7 (ae l7)).af (fun l8=>
 some l8)))))
def Pu (NN:Nat):((Int×(Int×Int))×(aa×(aa×aa)))->(Option aa):=
 (fun(((i0,i1,i2),l3,l4,l5):((Int×(Int×Int))×(aa×(aa×aa))))=>
 (AY l3 0 (ae l3) (dk (ae l3) (0:Int))).af (fun l6=>
 (bk 0 (ae l3) (ae l6)).af (fun _=>
 cH NN (fun(((l7,l8,i9,fG),eE,eT,gE,gB):((aa×(aa×(Int×Int)))×(aa×(Int×(Int×Int)))))=>
 aI (cL fG i9)
 (cm (ak eE (
 cH NN (fun(((fv,eG,gG,iI,gM,e9,fH),eo,jl,fI,fA):((aa×(aa×(Int×(Int×(Int×(Int×Int))))))×(aa×(Int×(Int×Int)))))=>
 aI (cL fH e9)
 ((di fv gG).af (fun gZ=>
 (di eG fH).af (fun gS=>
 (iM (du .i64 gZ gS) fI).af (fun jm=>
 aI (cL (br .i64 gG fH) (aS (ae eo)))
 ((dB (br .i64 gG fH) (ae eo)).af (fun HG=>
 (cW eo (aH 0 HG)).af (fun ig=>
 (iM (br .i64 ig jm) fI).af (fun jn=>
 (dB (br .i64 gG fH) (ae eo)).af (fun zD=>
 (cW eo (aH 0 zD)).af (fun nr=>
 (bk 0 (ae eo) (ae (bK eo (aH 0 zD) jn))).af (fun _=>
 some (Sum.inl ((fv,eG,gG,iI,gM,e9,br .i64 fH 1),bK eo (aH 0 zD) jn,jl,fI,fA)))))))))
 (aI (c7 jl (8:Int))
 ((dB (lL .i64 (br .i64 gG fH) (4:Int)) (ae eo)).af (fun HH=>
 (cW eo (aH 0 HH)).af (fun g0=>
 (iM (lL .i64 (br .i64 g0 fI) jm) fI).af (fun kS=>
 (dB (lL .i64 (br .i64 gG fH) (4:Int)) (ae eo)).af (fun BS=>
 (cW eo (aH 0 BS)).af (fun lD=>
 (bk 0 (ae eo) (ae (bK eo (aH 0 BS) kS))).af (fun _=>
 some (Sum.inl ((fv,eG,gG,iI,gM,e9,br .i64 fH 1),bK eo (aH 0 BS) kS,jl,fI,fA)))))))))
 (ak eo (
 some (Sum.inl ((fv,eG,gG,iI,gM,e9,br .i64 fH 1),eo,jl,fI,fA)))))))))
 ((ak eo (
 some (Sum.inl ((gM,fv,eG,iI),eo,jl,fI,fA)))).af (fun pF=>
 some (Sum.inr pF))))
 ((l7,l8,fG,i9,fG,aS (ae l8),(0:Int)),eE,eT,gE,gB)))
 (fun((jo,jH,mP,iS),iy,gN,jp,ij)=>
 ak iy (
 some (Sum.inl ((jH,mP,iS,br .i64 jo 1),iy,gN,jp,ij)))))
 (((mU (ae eE) (ae l3)).af (fun _=>
 some eE)).af (fun mQ=>
 some (Sum.inr mQ))))
 ((l4,l5,aS (ae l4),(0:Int)),l6,i0,i1,i2))))
def Jx (NN:Nat):((Int×(Int×Int))×(aa×(aa×aa)))->(Option aa):=
 (fun(((i0,i1,i2),l3,l4,l5):((Int×(Int×Int))×(aa×(aa×aa))))=>
 cm (aI (c7 i0 (1:Int))
 (ak l3 (
 some (Sum.inl ((true,i0,l4,l5),l3,i0,i1,i2))))
 (ak l3 (
 some (Sum.inl ((c7 i0 (5:Int),i0,l4,l5),l3,i0,i1,i2)))))
 (fun((b6,i7,l8,l9),c8,ie,eT,gE)=>
 aI (b6)
 ((di l8 (0:Int)).af (fun gB=>
 (di l9 (0:Int)).af (fun gF=>
 (dB (0:Int) (ae c8)).af (fun S5=>
 (cW c8 (aH 0 S5)).af (fun gG=>
 (mU (ae (bK c8 (aH 0 S5) (iB gB gF))) (ae l3)).af (fun _=>
 some (bK c8 (aH 0 S5) (iB gB gF))))))))
 (aI (c7 i7 (2:Int))
 ((di l8 (0:Int)).af (fun iI=>
 (di l9 (0:Int)).af (fun gM=>
 (iM (du .i64 iI gM) eT).af (fun e9=>
 (dB (0:Int) (ae c8)).af (fun BP=>
 (cW c8 (aH 0 BP)).af (fun jF=>
 (mU (ae (bK c8 (aH 0 BP) e9)) (ae l3)).af (fun _=>
 some (bK c8 (aH 0 BP) e9))))))))
 (aI (c7 i7 (3:Int))
 ((di l8 (0:Int)).af (fun jl=>
 (di l9 (0:Int)).af (fun fI=>
 (dB (0:Int) (ae c8)).af (fun BR=>
 (cW c8 (aH 0 BR)).af (fun gZ=>
 (mU (ae (bK c8 (aH 0 BR) (iB (du .i64 jl fI) eT))) (ae l3)).af (fun _=>
 some (bK c8 (aH 0 BR) (iB (du .i64 jl fI) eT))))))))
 (aI (c7 i7 (4:Int))
 ((di l8 (0:Int)).af (fun gS=>
 (di l9 (0:Int)).af (fun jm=>
 (dB (0:Int) (ae c8)).af (fun HG=>
 (cW c8 (aH 0 HG)).af (fun ig=>
 (mU (ae (bK c8 (aH 0 HG) (iB (br .i64 gS jm) eT))) (ae l3)).af (fun _=>
 some (bK c8 (aH 0 HG) (iB (br .i64 gS jm) eT))))))))
 (aI (c7 i7 (6:Int))
 ((di l8 (0:Int)).af (fun jn=>
 (di l9 (0:Int)).af (fun jV=>
 (dB (0:Int) (ae c8)).af (fun zE=>
 (cW c8 (aH 0 zE)).af (fun kg=>
 (mU (ae (bK c8 (aH 0 zE) (qI .i64 jn jV))) (ae l3)).af (fun _=>
 some (bK c8 (aH 0 zE) (qI .i64 jn jV))))))))
 (ak c8 (
 (Av ((ie,eT,gE),c8,l8,l9)).af (fun qp=>
 (mU (ae qp) (ae l3)).af (fun _=>
 some qp))))))))))
theorem Qs {α:Type} (a b:Int) (x y:α):aI (c7 a b) x y=if a=b then x else y:=by
 by_cases h:a=b
 ·rw[if_pos h,bS (A8 h)]
 ·rw[if_neg h,bN (xf h)]
theorem Gs (a b:Int):c7 a b=decide (a=b):=by by_cases h:a=b<;>simp[c7,h]
theorem aox (a b:Int):iz a b=decide (a<=b):=rfl
theorem Ys {α:Type} (p:Prop) [Decidable p] (x y:α):aI (decide p) x y=if p then x else y:=by
 by_cases h:p
 ·rw[if_pos h,bS (decide_eq_true h)]
 ·rw[if_neg h,bN (decide_eq_false h)]
theorem Ck {k p n:Int} (h:jO (k,p,n)=true):(k=1/\p=0/\n=0)\/(k=2/\dJ p=true/\n=0)\/(k=3/\(1<=p/\p<=1000000)/\n=0)\/(k=4/\(1<=p/\p<=1000000)/\n=0)\/(k=5/\(1<=p/\p<=1000000)/\n=0)\/
  (k=6/\p=0/\1<=n/\n<=20)\/(k=7/\dJ p=true/\1<=n/\n<=6)\/(k=8/\dJ p=true/\p≠2/\n=0):=by
 simp only[jO] at h;by_cases h1:k=1
 ·rw[if_pos h1] at h;exact .inl ⟨h1,by simpa using h⟩
 rw[if_neg h1] at h;by_cases h2:k=2
 ·rw[if_pos h2] at h;simp at h;exact .inr (.inl ⟨h2,h⟩)
 rw[if_neg h2] at h;by_cases h3:k=3\/k=4\/k=5
 ·rw[if_pos h3] at h;simp only[decide_eq_true_eq] at h;rcases h3 with h3|h3|h3
  ·exact .inr (.inr (.inl ⟨h3,h⟩))
  ·exact .inr (.inr (.inr (.inl ⟨h3,h⟩)))
  ·exact .inr (.inr (.inr (.inr (.inl ⟨h3,h⟩))))
 rw[if_neg h3] at h;by_cases h4:k=6
 ·rw[if_pos h4] at h;simp at h;exact .inr (.inr (.inr (.inr (.inr (.inl ⟨h4,h⟩)))))
 rw[if_neg h4] at h;by_cases h5:k=7
 ·rw[if_pos h5] at h;simp at h;exact .inr (.inr (.inr (.inr (.inr (.inr (.inl ⟨h5,h⟩))))))
 rw[if_neg h5] at h;by_cases h6:k=8
 ·rw[if_pos h6] at h;simp at h;exact .inr (.inr (.inr (.inr (.inr (.inr (.inr ⟨h6,h⟩))))))
 rw[if_neg h6] at h;cases h
theorem ajW (x:Int×Int×Int) (y:Bool) (h:CP x=some y):Pj aM x=some y:=by
 obtain⟨k,p,n⟩:=x;rw[<-h];simp only[CP,Pj,jO,vi,aB,Gs,aox,Ys];by_cases h1:k=1
 ·rw[if_pos h1,if_pos h1];by_cases hp:p=0<;>by_cases hn:n=0<;>simp[hp,hn]
 rw[if_neg h1,if_neg h1];by_cases h2:k=2
 ·rw[if_pos h2,if_pos h2];cases dJ p<;>rfl
 rw[if_neg h2,if_neg h2];have hd:(if k=3 then some (Sum.inl ((true,k),k,p,n)) else if k=4 then some (Sum.inl ((true,k),k,p,n)) else some (Sum.inl ((decide (k=5),k),k,p,n)):Option (((Bool×Int)×Int×Int×Int)⊕Bool))=some (Sum.inl ((decide (k=3\/k=4\/k=5),k),k,p,n)):=by
  by_cases h3:k=3
  ·simp[h3]
  ·by_cases h4:k=4
   ·simp[h4]
   ·simp[h3,h4]
 rw[hd,jW];simp only[Ys];by_cases h3:k=3\/k=4\/k=5
 ·rw[if_pos h3,if_pos h3];by_cases ha:1<=p
  ·by_cases hb:p<=1000000<;>simp[ha,hb]
  ·simp[ha]
 rw[if_neg h3,if_neg h3];by_cases h4:k=6
 ·rw[if_pos h4,if_pos h4];by_cases ha:p=0
  ·by_cases hb:1<=n<;>simp[ha,hb]
  ·simp[ha]
 rw[if_neg h4,if_neg h4];by_cases h5:k=7
 ·rw[if_pos h5,if_pos h5];cases dJ p
  ·rfl
  ·rw[bS rfl];by_cases hb:1<=n<;>simp[hb]
 rw[if_neg h5,if_neg h5];by_cases h6:k=8
 ·rw[if_pos h6,if_pos h6];cases dJ p
  ·rfl
  ·rw[bS rfl,aqP,zaz];by_cases hb:p=2<;>simp[hb,aI]
 rw[if_neg h6,if_neg h6]
theorem aks (x:Int×Int×Int) (y:Int) (h:qE x=some y):PE aM x=some y:=by
 obtain⟨k,p,n⟩:=x;rw[<-h];simp only[qE,PE,mA,Qs];by_cases h7:k=7
 ·rw[if_pos h7,if_pos h7]
 ·rw[if_neg h7,if_neg h7];by_cases h8:k=8<;>simp[h8]
theorem atE {n:Int} (h0:0<=n) (h1:n<=60):Ct .i64 1 n=some (2^n.toNat):=by
 obtain⟨m,rfl⟩:=iC h0;rw[atF (by omega),zab];congr 1
theorem adR {n:Int} (h0:0<=n) (h1:n<=20):1<=(2:Int)^n.toNat/\(2:Int)^n.toNat<=1048576:=by
 have a:(2:Nat)^n.toNat<=2^20:=zbi (by decide) (by omega);have b:1<=(2:Nat)^n.toNat:=Nat.one_le_two_pow;have e:(((2:Nat)^n.toNat:Nat):Int)=(2:Int)^n.toNat:=by push_cast;rfl
 rw[<-e];omega
theorem akq (x:Int×Int×Int) (y:Int) (h:CZ x=some y):Xs aM x=some y:=by
 obtain⟨k,p,n⟩:=x;simp only[CZ] at h;split at h
 ·rename_i hr;rw[<-h];rcases Ck hr with⟨rfl,rfl,rfl⟩|⟨rfl,hp,rfl⟩|⟨rfl,hp,rfl⟩|⟨rfl,hp,rfl⟩|⟨rfl,hp,rfl⟩|⟨rfl,rfl,hn⟩|⟨rfl,hp,hn⟩|⟨rfl,hp,qT,rfl⟩
  ·rfl
  ·have:=fQ hp;exact congrArg some (su (by omega) (by omega))
  ·rfl
  ·rfl
  ·rfl
  ·have h1:=adR (n:=n) (by omega) hn.2;show(Ct .i64 1 n).af _=_;rw[atE (by omega) (by omega),aB,su (by omega) (by omega)];rfl
  ·have:=fQ hp;exact congrArg some (su (by omega) (by omega))
  ·have:=fQ hp;exact congrArg some (su (by omega) (by omega))
 ·cases h
theorem agQ {r:Int×Int×Int} (h:jO r=true):0<=fT r/\fT r<=1048576:=by
 obtain⟨k,p,n⟩:=r;rcases Ck h with⟨rfl,rfl,rfl⟩|⟨rfl,hp,rfl⟩|⟨rfl,hp,rfl⟩|⟨rfl,hp,rfl⟩|⟨rfl,hp,rfl⟩|⟨rfl,rfl,hn⟩|⟨rfl,hp,hn⟩|⟨rfl,hp,qT,rfl⟩
 ·simp[fT]
 ·have:=fQ hp;simp[fT];omega
 ·simp[fT];omega
 ·simp[fT];omega
 ·simp[fT];omega
 ·have h1:=adR (n:=n) (by omega) hn.2;simp only[fT,Int.reduceEq,reduceIte,or_self];omega
 ·have:=fQ hp;simp[fT];omega
 ·have:=fQ hp;simp[fT];omega
theorem CN {r:Int×Int×Int} (h:jO r=true):mA r=(cB r:Int)/\1<=cB r/\cB r<=6:=by
 obtain⟨k,p,n⟩:=r;rcases Ck h with⟨rfl,rfl,rfl⟩|⟨rfl,hp,rfl⟩|⟨rfl,hp,rfl⟩|⟨rfl,hp,rfl⟩|⟨rfl,hp,rfl⟩|⟨rfl,rfl,hn⟩|⟨rfl,hp,hn⟩|⟨rfl,hp,qT,rfl⟩
 ·simp[cB,mA]
 ·simp[cB,mA]
 ·simp[cB,mA]
 ·simp[cB,mA]
 ·simp[cB,mA]
 ·simp[cB,mA]
 ·simp[cB,mA];omega
 ·simp[cB,mA]
theorem akd (x:(Int×Int×Int)×aa) (y:Bool) (h:CT x=some y):Pt aM x=some y:=by
 obtain⟨⟨k,p,n⟩,l⟩:=x;simp only[CT] at h;split at h
 ·rename_i hc;obtain⟨hr,hl⟩:=hc;rw[<-h];have hb:=agQ hr;simp only[Pt];rw[show CZ (k,p,n)=some (fT (k,p,n)) from if_pos hr,aB]
  generalize fT (k,p,n)=t at hb⊢;rw[abX l (fun i=>(t,l,aS (ae l),(i:Int))) (uP t) (.inr false) (.inl ()) ?_ ?_ ?_ ?_ (eP (by omega))]
  ·cases l.all (uP t)<;>rfl
  ·intro i a ha hb;rw[bS (zH ha),fq,ha,aB];simp only[uP,decide_eq_true_eq] at hb;rw[bN (d8 hb.1),bN (d8 hb.2),H7 ha (by omega)]
  ·intro i a ha hb;rw[bS (zH ha),fq,ha,aB];simp only[uP,decide_eq_false_iff_not] at hb;by_cases h0:a<0
   ·rw[bS (eB h0)]
   ·rw[bN (d8 (by omega)),bS (eB (by omega))]
  ·rw[bN (xV l)]
  ·rfl
 ·cases h
theorem asK {w:Nat} {p:Int} (h:w=1):bK (dk w (0:Int)) 0 p=[p]:=by subst h;rfl
theorem mkW {r:Int×Int×Int} (hr:jO r=true):km (mA r) (mA r) 8=some (cB r):=by
 have hw:=CN hr;rw[hw.1];exact uU (by simp only[fe];omega)
theorem akt (x:Int×Int×Int) (y:aa) (h:C1 x=some y):PF aM x=some y:=by
 obtain⟨k,p,n⟩:=x;simp only[C1] at h;split at h
 ·rename_i hr;rw[<-h];simp only[PF,qE,aB];rw[mkW hr,aB,Qs];by_cases h4:k=4
  ·subst h4;rw[if_pos rfl];rfl
  ·rw[if_neg h4,Nn,bE,aB,jW,mr,aB];simp only[Jg];rw[if_neg h4]
 ·cases h
theorem FE (w:Nat) (f:Nat->Int):(mX w f).length=w:=by simp[mX]
theorem FD {w j:Nat} (f:Nat->Int) (h:j<w):(mX w f)[j]? =some (f j):=by simp[mX,h]
theorem CI {w:Nat} {f g:Nat->Int} (h:∀j,j<w->f j=g j):mX w f=mX w g:=zaK fun j hj=>h j (zaI.1 hj)
theorem agH {w:Nat} (f:Nat->Int) (j:Nat) (v:Int):(mX w f).set j v=mX w (fun i=>if i=j then v else f i):=by
 apply zal;intro i;by_cases hi:i<w
 ·rw[FD _ hi];by_cases hj:j=i
  ·subst hj;rw[za8 (by rw[FE];exact hi),if_pos rfl]
  ·rw[List.getElem?_set_ne hj,FD _ hi,if_neg (fun e=>hj e.symm)]
 ·rw[zad (by rw[List.length_set,FE];omega),zad (by rw[FE];omega)]
theorem QV {x:aa} {j:Nat} (h:j<x.length):x[j]? =some (dt x j):=by
 rw[zaa h];simp[dt,zaf,zaa h]
theorem QW {w j:Nat} (f:Nat->Int) (h:j<w):dt (mX w f) j=f j:=by simp[dt,zaf,FD f h]
theorem aum {x:aa} {w:Nat} (h:x.length=w):mX w (dt x)=x:=by
 subst h;apply zal;intro i;by_cases hi:i<x.length
 ·rw[FD _ hi,QV hi]
 ·rw[zad (by rw[FE];omega),zad (by omega)]
theorem agG (w:Nat) (c:Int):dk w c=mX w fun _=>c:=by
 apply zal;intro i;by_cases hi:i<w
 ·rw[FD _ hi];simp[dk,hi]
 ·rw[zad (by simp[dk];omega),zad (by rw[FE];omega)]
theorem xU (w:Nat) (f:Nat->Int):ae (mX w f)=w:=FE w f
theorem aio {w j:Nat} (f:Nat->Int) (h:j<w):dB (j:Int) (ae (mX w f))=some j:=by rw[xU];exact rD h
theorem alc {w j:Nat} (f:Nat->Int) (h:j<w):cW (mX w f) (aH 0 j)=some (f j):=by rw[ja];exact FD f h
theorem atz {w:Nat} (f:Nat->Int) (j:Nat) (v:Int):bK (mX w f) (aH 0 j) v=mX w (fun i=>if i=j then v else f i):=by rw[ja];exact agH f j v
theorem aaC {x:aa} {j:Nat} (h:j<x.length):di x (j:Int)=some (dt x j):=by rw[fq];exact QV h
theorem LF {r:Int×Int×Int} {x:aa} (h:oE r x=true):x.length=cB r:=by
 simp only[oE,zac,decide_eq_true_eq] at h;exact h.1
theorem LD {r:Int×Int×Int} {x:aa} (h:oE r x=true) {j:Nat} (hj:j<cB r):0<=dt x j/\dt x j<=fT r:=by
 simp only[oE,zac,decide_eq_true_eq] at h;have:=zbA.1 h.2 (dt x j) (zap (QV (by rw[h.1];exact hj)));simpa[uP] using this
theorem Gr {r:Int×Int×Int} {x:aa} (h:oE r x=true) (hw:cB r=1):x=[dt x 0]/\0<=dt x 0/\dt x 0<=fT r:=by
 have hl:=LF h;rw[hw] at hl;match x,hl with
 |[a],_=>exact⟨rfl,LD h (j:=0) (by omega)⟩
theorem u5 {a p:Int} (ha:0<=a) (hp:0<p):iM a p=some (a%p):=by
 obtain⟨m,rfl⟩:=iC (z:=p) (by omega);exact Uq ha (by omega)
theorem aoF {a b:Int} (ha:0<=a/\a<=1) (hb:0<=b/\b<=1):iB a b=((a.toNat&&&b.toNat:Nat):Int):=by
 have h1:a=0\/a=1:=by omega
 have h2:b=0\/b=1:=by omega
 rcases h1 with rfl|rfl<;>rcases h2 with rfl|rfl<;>rfl
theorem ahH {a b:Int} (ha:0<=a/\a<=1048576) (hb:0<=b/\b<=1048576):qI .i64 a b=((a.toNat&&&b.toNat:Nat):Int):=by
 obtain⟨m,rfl⟩:=iC ha.1;obtain⟨n,rfl⟩:=iC hb.1;exact ahG (by omega) (by omega)
theorem ku {f g:Nat->Int}:∀{n:Nat},(∀i,i<n->f i=g i)->sm n f=sm n g
 |0,_=>rfl
 |n+1,h=>by simp only[sm];rw[ku (n:=n) (fun i hi=>h i (by omega)),h n (by omega)]
def iW (om:Bool) (w:Nat) (x y:Nat->Int) (i j t:Nat):Int:=sm i (fun a=>sm w (fun b=>kW om x y t a b))+sm j (fun b=>kW om x y t i b)
def jD (p:Int) (om:Bool) (w:Nat) (x y:Nat->Int) (i j:Nat):aa:=mX w fun t=>iW om w x y i j t%p
theorem aiI (p:Int) (om:Bool) (w:Nat) (x y:Nat->Int) (i:Nat):jD p om w x y i w=jD p om w x y (i+1) 0:=by
 unfold jD;refine CI fun t _=>?_;simp only[iW,sm,zbQ]
theorem aiG (p:Int) (om:Bool) (w:Nat) (x y:Nat->Int):jD p om w x y 0 0=dk w 0:=by
 rw[agG];unfold jD;exact CI fun t _=>by simp[iW,sm]
theorem aiH (p:Int) (om:Bool) (w:Nat) (x y:Nat->Int):jD p om w x y w 0=uq p om w x y:=by
 unfold jD uq;refine CI fun t _=>?_;simp only[iW,sm,zbQ]
theorem YZ (a b p:Int):(a%p+b)%p=(a+b)%p:=by rw[zbu]
theorem YH {p:Int} {om:Bool} {w:Nat} {x y:Nat->Int} {i j t0:Nat} (v:Int) (hp:0<p) (ht:i+j=t0\/om=true/\i+j=t0+4) (hw:om=true->w=4) (hi:i<w) (hj:j<w) (h0:t0<w) (hv:v=(iW om w x y i j t0+kW om x y t0 i j)%p):
  bK (jD p om w x y i j) (aH 0 t0) v=jD p om w x y i (j+1):=by
 unfold jD;rw[atz];refine CI fun t cD=>?_;by_cases e:t=t0
 ·rw[if_pos e,hv,e];congr 1;simp only[iW,sm];omega
 ·rw[if_neg e];have hk:kW om x y t i j=0:=by
   unfold kW;have h3:i+j≠t:=by
    rcases ht with h|⟨h1,h⟩
    ·omega
    ·have:=hw h1;omega
   rw[if_neg h3,if_neg (fun hc=>by have:=hw hc.1;omega)]
  have e2:iW om w x y i (j+1) t=iW om w x y i j t:=by
   simp only[iW,sm,hk];omega
  rw[e2]
theorem aiJ {p:Int} {om:Bool} {w:Nat} {x y:Nat->Int} {i j:Nat} (h1:w<=i+j) (h2:om=false):jD p om w x y i j=jD p om w x y i (j+1):=by
 unfold jD;refine CI fun t cD=>?_;have hk:kW om x y t i j=0:=by
  unfold kW;rw[if_neg (by omega),if_neg (by simp[h2])]
 have e2:iW om w x y i (j+1) t=iW om w x y i j t:=by
  simp only[iW,sm,hk];omega
 rw[e2]
theorem ER {a b:Int} (ha:0<=a/\a<=1048576) (hb:0<=b/\b<=1048576):du .i64 a b=a*b/\0<=a*b/\a*b<=1099511627776:=by
 have h0:0<=a*b:=za0 ha.1 hb.1;have h1:a*b<=1048576*1048576:=zaw ha.2 hb.2 hb.1 (by decide);exact⟨qv (by omega) (by omega),h0,by omega⟩
theorem YG {p:Int} {om:Bool} {w:Nat} {x y:Nat->Int} {i j t:Nat} (h:t<w):dB (t:Int) (ae (jD p om w x y i j))=some t/\cW (jD p om w x y i j) (aH 0 t)=some (iW om w x y i j t%p):=⟨aio _ h,alc _ h⟩
structure Ji (k p:Int) (w:Nat):Prop where
 ck:k=7\/k=8
 cp:2<=p/\p<=1000003
 cw:1<=w/\w<=6
 w8:k=8->w=4
theorem Qf {k p n:Int} (h:jO (k,p,n)=true) (hk:k=7\/k=8):Ji k p (cB (k,p,n)):=by
 have hw:=CN h;refine⟨hk,?_,hw.2,fun e=>by subst e;rfl⟩;rcases Ck h with⟨rfl,rfl,rfl⟩|⟨rfl,hp,rfl⟩|⟨rfl,hp,rfl⟩|⟨rfl,hp,rfl⟩|⟨rfl,hp,rfl⟩|⟨rfl,rfl,hn⟩|⟨rfl,hp,hn⟩|⟨rfl,hp,qT,rfl⟩
 all_goals first|exact fQ hp|(exfalso;omega)
theorem aiL {k p a b:Int} {w i j:Nat} {x y:Nat->Int} (c:Ji k p w) (ha:0<=a/\a<=p) (hb:0<=b/\b<=p) (Sw:x i=a) (Sz:y j=b) (hi:i<w) (hj:j<w) (cD:i+j<w):
  ∃v,iM (br .i64 (iW (decide (k=8)) w x y i j (i+j)%p) (du .i64 a b)) p=some v/\(∀q,iM (du .i64 a b) p=some q->iM (br .i64 (iW (decide (k=8)) w x y i j (i+j)%p) q) p=some v)/\
   bK (jD p (decide (k=8)) w x y i j) (aH 0 (i+j)) v=jD p (decide (k=8)) w x y i (j+1):=by
 obtain⟨Hh,s9⟩:=c.cp;obtain⟨m1,m2,m3⟩:=ER (a:=a) (b:=b) (by omega) (by omega);have s0:=zaE (iW (decide (k=8)) w x y i j (i+j)) (b:=p) (by omega);have s1:=zaq (iW (decide (k=8)) w x y i j (i+j)) (b:=p) (by omega);have hk:kW (decide (k=8)) x y (i+j) i j=a*b:=by unfold kW;rw[if_pos rfl,Sw,Sz]
 refine⟨(iW (decide (k=8)) w x y i j (i+j)%p+a*b)%p,?_,fun q hq=>?_,YH _ (by omega) (.inl rfl) (fun hc=>c.w8 (of_decide_eq_true hc)) hi hj cD (by rw[hk,YZ])⟩
 ·rw[m1,fU (by omega) (by omega),u5 (by omega) (by omega)]
 ·rw[m1,u5 (by omega) (by omega)] at hq;injection hq with hq;have q0:=zaE (a*b) (b:=p) (by omega);have q1:=zaq (a*b) (b:=p) (by omega);rw[<-hq,fU (by omega) (by omega),u5 (by omega) (by omega),Int.add_emod_emod]
theorem aiK {p a b:Int} {i j:Nat} {x y:Nat->Int} (hp:2<=p/\p<=1000003) (ha:0<=a/\a<=p) (hb:0<=b/\b<=p) (Sw:x i=a) (Sz:y j=b) (hi:i<4) (hj:j<4) (cD:4<=i+j):
  ∃v,iM (br .i64 (iW true 4 x y i j (i+j - 4)%p) (du .i64 (lL .i64 p a) b)) p=some v/\(∀q,iM (du .i64 a b) p=some q->iM (lL .i64 (br .i64 (iW true 4 x y i j (i+j - 4)%p) p) q) p=some v)/\
   bK (jD p true 4 x y i j) (aH 0 (i+j - 4)) v=jD p true 4 x y i (j+1):=by
 obtain⟨Hh,s9⟩:=hp;have hs:lL .i64 p a=p - a:=su (by omega) (by omega);obtain⟨m1,m2,m3⟩:=ER (a:=a) (b:=b) (by omega) (by omega);obtain⟨n1,n2,n3⟩:=ER (a:=p - a) (b:=b) (by omega) (by omega);have s0:=zaE (iW true 4 x y i j (i+j - 4)) (b:=p) (by omega);have s1:=zaq (iW true 4 x y i j (i+j - 4)) (b:=p) (by omega);have hk:kW true x y (i+j - 4) i j= -(a*b):=by unfold kW;rw[if_neg (by omega),if_pos ⟨rfl,by omega⟩,Sw,Sz]
 have cI:(iW true 4 x y i j (i+j - 4)%p+(p - a)*b)%p=(iW true 4 x y i j (i+j - 4)+ -(a*b))%p:=by
  rw[YZ];rw[show iW true 4 x y i j (i+j - 4)+(p - a)*b=iW true 4 x y i j (i+j - 4)+ -(a*b)+p*b by rw[Int.sub_mul];omega,Int.add_mul_emod_self_left]
 refine⟨(iW true 4 x y i j (i+j - 4)%p+(p - a)*b)%p,?_,fun q hq=>?_,YH _ (by omega) (.inr ⟨rfl,by omega⟩) (fun _=>rfl) hi hj (by omega) (by rw[hk,cI])⟩
 ·rw[hs,n1,fU (by omega) (by omega),u5 (by omega) (by omega)]
 ·rw[m1,u5 (by omega) (by omega)] at hq;injection hq with hq;have q0:=zaE (a*b) (b:=p) (by omega);have q1:=zaq (a*b) (b:=p) (by omega);rw[<-hq,fU (by omega) (by omega),su (by omega) (by omega),u5 (by omega) (by omega),cI];congr 1;rw[show iW true 4 x y i j (i+j - 4)%p+p - a*b%p=iW true 4 x y i j (i+j - 4)%p - a*b%p+p by omega,Int.add_emod_right,<-Int.sub_eq_add_neg,Int.sub_emod_emod,Int.emod_sub_emod]
theorem akh (x:(Int×Int×Int)×aa×aa×aa) (z:aa) (h:Av x=some z):Pu aM x=some z:=by
 obtain⟨⟨k,p,n⟩,l,x,y⟩:=x;simp only[Av] at h;split at h
 ·rename_i hc;obtain⟨⟨hr,hk⟩,hl,hx,hy⟩:=hc;rw[<-h];have c:=Qf hr hk;have hlx:=LF hx;have hly:=LF hy;have zl:fT (k,p,n)=p - 1:=by
   simp only[fT];rw[if_neg (by omega),if_neg (by omega),if_neg (by omega)]
  have bx:=fun j (hj:j<cB (k,p,n))=>LD hx hj;have by_:=fun j (hj:j<cB (k,p,n))=>LD hy hj;rw[zl] at bx by_;obtain⟨Hh,s9⟩:=c.cp;obtain⟨Sv,hw1⟩:=c.cw;have alK:qu (k,p,n) x y=uq p (decide (k=8)) (cB (k,p,n)) (dt x) (dt y):=by
   simp only[qu];rw[if_pos hk]
  rw[alK];simp only[Pu,ak];have h0:AY l 0 (ae l) (dk (ae l) (0:Int))=some (dk (cB (k,p,n)) 0):=by
   unfold AY;rw[if_pos (by simp[ae])];simp[dk,ae,hl]
  rw[h0,aB,show ae l=cB (k,p,n) from hl,Nn,bE,aB]
  generalize cB (k,p,n)=w at*
  rw[fS (fun i=>((x,y,aS (ae x),(i:Int)),jD p (decide (k=8)) w (dt x) (dt y) i 0,k,p,n)) w ?a1 ?a2 ?a3 (eP (by omega))]
  case a3=>rw[aiG];rfl
  case a2=>
   simp only
   rw[bN (d8 (by rw[nl,hlx];omega)),aiH,z6 (by unfold uq;rw[xU]),aB,aB]
  case a1=>
   intro i hi;simp only
   rw[bS (eB (by rw[nl,hlx];omega)),bE,aB];rw[fS (fun j=>((x,y,(i:Int),aS (ae x),(i:Int),aS (ae y),(j:Int)),jD p (decide (k=8)) w (dt x) (dt y) i j,k,p,n)) (r:=Sum.inl (((i:Int),x,y,aS (ae x)),jD p (decide (k=8)) w (dt x) (dt y) i w,k,p,n)) w ?b1 ?b2 ?b3 (eP (by omega))]
   ·rw[jW];simp only
    rw[bE,aB,aiI,fU (by omega) (by omega)];rfl
   case b3=>rfl
   case b2=>
    simp only
    rw[bN (d8 (by rw[nl,hly];omega)),bE,aB,aB]
   case b1=>
    intro j hj;have b1:=bx i hi;have b2:=by_ j hj;simp only
    rw[bS (eB (by rw[nl,hly];omega)),aaC (by omega),aB,aaC (by omega),aB];obtain⟨m1,m2,m3⟩:=ER (a:=dt x i) (b:=dt y j) (by omega) (by omega);obtain⟨q,hq⟩:∃q,iM (du .i64 (dt x i) (dt y j)) p=some q:=⟨_,by rw[m1,u5 (by omega) (by omega)]⟩;rw[hq,aB,fU (a:=(i:Int)) (by omega) (by omega),fU (a:=(j:Int)) (by omega) (by omega)];rw[show(i:Int)+(j:Int)=((i+j:Nat):Int) by omega,show(j:Int)+1=((j+1:Nat):Int) by omega];rw[show ae (jD p (decide (k=8)) w (dt x) (dt y) i j)=w from xU _ _]
    by_cases cD:i+j<w
    ·obtain⟨v,v1,v2,v3⟩:=aiL c (a:=dt x i) (b:=dt y j) (by omega) (by omega) rfl rfl hi hj cD;obtain⟨g1,g2⟩:=YG (p:=p) (om:=decide (k=8)) (x:=dt x) (y:=dt y) (i:=i) (j:=j) cD;rw[show ae (jD p (decide (k=8)) w (dt x) (dt y) i j)=w from xU _ _] at g1
     rw[bS (eB (by simp only[aS];omega)),g1,aB,g2,aB,v2 q hq,aB,aB,g2,aB,v3,show ae (jD p (decide (k=8)) w (dt x) (dt y) i (j+1))=w from xU _ _,bE,aB]
    ·rw[bN (d8 (by simp only[aS];omega)),Qs];by_cases h8:k=8
     ·obtain rfl:=c.w8 h8;subst h8;obtain⟨v,v1,v2,v3⟩:=aiK (p:=p) (a:=dt x i) (b:=dt y j) ⟨Hh,s9⟩ (by omega) (by omega) rfl rfl hi hj (by omega);obtain⟨g1,g2⟩:=YG (p:=p) (om:=true) (w:=4) (x:=dt x) (y:=dt y) (i:=i) (j:=j) (t:=i+j - 4) (by omega);rw[show ae (jD p true 4 (dt x) (dt y) i j)=4 from xU _ _] at g1
      rw[if_pos rfl,su (a:=((i+j:Nat):Int)) (by omega) (by omega),show((i+j:Nat):Int) - 4=((i+j - 4:Nat):Int) by omega];simp only[decide_true];rw[g1,aB,g2,aB,v2 q hq,aB,aB,g2,aB,v3,show ae (jD p true 4 (dt x) (dt y) i (j+1))=4 from xU _ _,bE,aB]
     ·rw[if_neg h8,bE,aB,aiJ (by omega) (decide_eq_false h8)]
 ·cases h
theorem uV {r:Int×Int×Int} {a b:Int} (h:¬(r.1=7\/r.1=8)):qu r [a] [b]=[sd r a b]:=by simp only[qu];rw[if_neg h];rfl
theorem EL {l:aa} (h:l.length=1):∃t,l=[t]:=by
 match l,h with
 |[t],_=>exact⟨t,rfl⟩
theorem yT {r:Int×Int×Int} {x y:aa} (hx:oE r x=true) (hy:oE r y=true) (hw:cB r=1):∃a b,x=[a]/\y=[b]/\(0<=a/\a<=fT r)/\0<=b/\b<=fT r:=
 ⟨_,_,(Gr hx hw).1,(Gr hy hw).1,(Gr hx hw).2,(Gr hy hw).2⟩
theorem aki (x:(Int×Int×Int)×aa×aa×aa) (z:aa) (h:CX x=some z):Jx aM x=some z:=by
 obtain⟨⟨k,p,n⟩,l,x,y⟩:=x;simp only[CX] at h;split at h
 ·rename_i hc;obtain⟨hr,hl,hx,hy⟩:=hc;rw[<-h];have hT:=agQ hr;rcases Ck hr with⟨rfl,rfl,rfl⟩|⟨rfl,hp,rfl⟩|⟨rfl,hp,rfl⟩|⟨rfl,hp,rfl⟩|⟨rfl,hp,rfl⟩|⟨rfl,rfl,hn⟩|⟨rfl,hp,hn⟩|⟨rfl,hp,qT,rfl⟩
  ·obtain⟨a,b,rfl,rfl,b1,b2⟩:=yT hx hy rfl;obtain⟨t,rfl⟩:=EL (l:=l) hl;rw[uV (by simp)];show some [iB a b]=some [_];rw[aoF b1 b2];rfl
  ·obtain⟨a,b,rfl,rfl,b1,b2⟩:=yT hx hy rfl;obtain⟨t,rfl⟩:=EL (l:=l) hl;rw[uV (by simp)];have:=fQ hp;have ht:fT (2,p,0)=p - 1:=rfl;obtain⟨m1,m2,m3⟩:=ER (a:=a) (b:=b) (by omega) (by omega);show(iM (du .i64 a b) p).af (fun q=>some [q])=some [_];rw[m1,u5 (by omega) (by omega)];rfl
  ·obtain⟨a,b,rfl,rfl,b1,b2⟩:=yT hx hy rfl;obtain⟨t,rfl⟩:=EL (l:=l) hl;rw[uV (by simp)];obtain⟨m1,m2,m3⟩:=ER (a:=a) (b:=b) (by omega) (by omega);show some [iB (du .i64 a b) p]=some [_];rw[m1,TL];rfl
  ·obtain⟨a,b,rfl,rfl,b1,b2⟩:=yT hx hy rfl;obtain⟨t,rfl⟩:=EL (l:=l) hl;rw[uV (by simp)];show some [iB (br .i64 a b) p]=some [_];rw[fU (by omega) (by omega),TL];rfl
  ·obtain⟨a,b,rfl,rfl,b1,b2⟩:=yT hx hy rfl;obtain⟨t,rfl⟩:=EL (l:=l) hl;rw[uV (by simp)];show some [iB a b]=some [_];rw[TL];rfl
  ·obtain⟨a,b,rfl,rfl,b1,b2⟩:=yT hx hy rfl;obtain⟨t,rfl⟩:=EL (l:=l) hl;rw[uV (by simp)];show some [qI .i64 a b]=some [_];rw[ahH (by omega) (by omega)];rfl
  ·simp only[Jx,Gs,Int.reduceEq,decide_true,decide_false,DH,AR,bE,aB,jW,ak];rw[show Av ((7,p,n),l,x,y)=some (qu (7,p,n) x y) from if_pos ⟨⟨hr,.inl rfl⟩,hl,hx,hy⟩,aB,z6 (by rw[show ae l=_ from hl];exact xU _ _),aB]
  ·simp only[Jx,Gs,Int.reduceEq,decide_true,decide_false,DH,AR,bE,aB,jW,ak];rw[show Av ((8,p,0),l,x,y)=some (qu (8,p,0) x y) from if_pos ⟨⟨hr,.inr rfl⟩,hl,hx,hy⟩,aB,z6 (by rw[show ae l=_ from hl];exact xU _ _),aB]
 ·cases h
theorem aq9 (k p n:Int):EY (k,p,n)=mX (cB (k,p,n)) fun j=>if j=0 then(if k=4 then 0 else if k=5\/k=6 then fT (k,p,n) else 1) else 0:=by
 simp only[EY];rw[agG];exact agH _ 0 _
def ch:Nat->Nat->Nat
 |_,0=>1
 |0,_+1=>0
 |n+1,k+1=>ch n k+ch n (k+1)
theorem Lk:∀{n k:Nat},n<k->ch n k=0
 |0,k+1,_=>by simp[ch]
 |n+1,k+1,h=>by simp[ch,Lk (show n<k by omega),Lk (show n<k+1 by omega)]
theorem Gc (n:Nat):ch n 0=1:=by cases n<;>rfl
theorem Yj:∀n,ch n n=1
 |0=>rfl
 |n+1=>by simp[ch,Yj n,Lk (zbB n)]
theorem Ll:∀(n k:Nat),(k+1)*ch (n+1) (k+1)=(n+1)*ch n k
 |0,0=>by simp[ch]
 |0,k+1=>by simp[ch]
 |n+1,0=>by
  have h:=Ll n 0;simp only[Gc] at h⊢;have e:ch (n+1+1) (0+1)=ch (n+1) 0+ch (n+1) (0+1):=rfl;rw[e,Gc];omega
 |n+1,k+1=>by
  have h1:=Ll n k;have h2:=Ll n (k+1);have e1:ch (n+1+1) (k+1+1)=ch (n+1) (k+1)+ch (n+1) (k+1+1):=rfl;have e2:ch (n+1) (k+1)=ch n k+ch n (k+1):=rfl;rw[e1];generalize ch (n+1) (k+1+1)=B at*
  generalize ch (n+1) (k+1)=A at*
  generalize ch n k=u at*
  generalize ch n (k+1)=v at*
  subst e2
  grind
def qC (f:Nat->Nat):Nat->Nat
 |0=>0
 |m+1=>qC f m+f m
theorem agE (n a:Nat):∀m,qC (fun k=>ch (n+1) k*a^k) (m+1)=qC (fun k=>ch n k*a^k) (m+1)+a*qC (fun k=>ch n k*a^k) m
 |0=>by simp[qC,Gc]
 |m+1=>by
  have h:=agE n a m;simp only[qC] at h⊢;have e:ch (n+1) (m+1)=ch n m+ch n (m+1):=rfl;rw[h,e,zbf]
  grind
theorem X8 (a:Nat):∀n,(a+1)^n=qC (fun k=>ch n k*a^k) (n+1)
 |0=>by simp[qC,Gc]
 |n+1=>by
  rw[agE];have e:qC (fun k=>ch n k*a^k) (n+1+1)=qC (fun k=>ch n k*a^k) (n+1):=by
   show qC _ (n+1)+ch n (n+1)*a^(n+1)=_;rw[Lk (zbB n)];simp
  rw[e,<-X8 a n,zbf]
  grind
theorem agD {p:Nat} {f:Nat->Nat}:∀m,(∀k,0<k->k<=m->p∣f k)->qC f (m+1)%p=f 0%p
 |0,h=>by simp[qC]
 |m+1,h=>by
  have i:=agD m fun k h1 h2=>h k h1 (by omega);obtain⟨c,hc⟩:=h (m+1) (by omega) (zae _);show(qC f (m+1)+f (m+1))%p=_;rw[hc,za1,i]
def AG (p:Nat):Prop:=2<=p/\∀d,d∣p->d=1\/d=p
theorem AG.Yx {p a:Nat} (hp:AG p) (h:¬p∣a):Nat.Coprime p a:=by
 have:=hp.2 (Nat.gcd p a) (Nat.gcd_dvd_left p a);rcases this with h1|h1
 ·exact h1
 ·exact absurd (h1▸Nat.gcd_dvd_right p a) h
theorem AG.ch {p k:Nat} (hp:AG p) (h1:0<k) (h2:k<p):p∣ch p k:=by
 obtain⟨q,rfl⟩:∃q,p=q+1:=⟨p - 1,by omega⟩;obtain⟨j,rfl⟩:∃j,k=j+1:=⟨k - 1,by omega⟩;have hm:=Ll q j;have hd:(q+1)∣(j+1)*Go.Am.ch (q+1) (j+1):=⟨Go.Am.ch q j,hm⟩;exact(hp.Yx fun h=>absurd (zbM (by omega) h) (by omega)).dvd_of_dvd_mul_left hd
theorem Zs {p:Nat} (hp:AG p):∀a,a^p%p=a%p
 |0=>by rw[Nat.zero_pow (by have:=hp.1;omega)]
 |a+1=>by
  rw[X8];show(qC _ p+Go.Am.ch p p*a^p)%p=_;obtain⟨q,rfl⟩:∃q,p=q+1:=⟨p - 1,by have:=hp.1;omega⟩;have h:=agD (p:=q+1) (f:=fun k=>Go.Am.ch (q+1) k*a^k) q fun k h1 h2=>zbo (hp.ch h1 (by omega)) (Nat.dvd_mul_right _ _);rw[Yj,Nat.one_mul,zbH,h,Zs hp a];simp only[Gc,Nat.pow_zero,Nat.mul_one];rw[<-zbH,zbR]
theorem akS {p a:Nat} (hp:AG p) (ha:¬p∣a):a*a^(p - 2)%p=1:=by
 have h2:=hp.1;have h:=Zs hp a;have e:a^p=a*(a*a^(p - 2)):=by
  obtain⟨q,rfl⟩:∃q,p=q+2:=⟨p - 2,by omega⟩;rw[zbf,zbf,zbp];rw[zar a (a^q),zar a (a^q*a)]
 rw[e] at h;have ha0:0<a:=by
  rcases zaD a with h|h
  ·subst h;exact absurd ⟨0,by simp⟩ ha
  ·exact h
 have hz:0<a*a^(p - 2):=zbG ha0 (Nat.pow_pos ha0);generalize a*a^(p - 2)=z at h hz⊢;obtain⟨y,rfl⟩:∃y,z=y+1:=⟨z - 1,by omega⟩;have hd:p∣a*y:=by
  have e:a*(y+1)=a*y+a:=by rw[Nat.mul_add,Nat.mul_one]
  rw[e] at h;have:(a*y+a - a)%p=0:=Nat.sub_mod_eq_zero_of_mod_eq h;rw[zbp] at this;exact zaC this
 obtain⟨c,rfl⟩:=(hp.Yx ha).dvd_of_dvd_mul_left hd;rw[zbR,za1];exact zat (by omega)
theorem amS {p:Int} (h:dJ p=true):AG p.toNat:=by
 have hp:=fQ h;obtain⟨n,rfl⟩:=iC (show 0<=p by omega);simp only[zab];refine⟨by omega,fun d hd=>?_⟩;rcases zaY d 2 with h2|h2
 ·rcases zaD d with h0|h0
  ·subst h0;have:=Nat.eq_zero_of_zero_dvd hd;omega
  ·exact .inl (by omega)
 ·obtain⟨e,he⟩:=hd;simp only[dJ,zac,decide_eq_true_eq,zbq,zbt] at h;have cI:∀a b:Nat,2<=a->2<=b->a<=b->n≠a*b:=by
   intro a b ha hb gD e;have h1:a*a<=n:=by rw[e];exact Nat.mul_le_mul_left _ gD
   have h3:a<1001:=by
    rcases zaY a 1001 with h|h
    ·exact h
    ·have:=zak h h;omega
   refine h.2 a (by simp;omega) ?_;unfold uu;have ea:((a:Int))*(a:Int)=((a*a:Nat):Int):=by norm_cast
   simp only[zac,decide_eq_true_eq];constructor
   ·rw[ea];omega
   ·rw[e];push_cast;exact Int.mul_emod_right _ _
  right;rcases zaY e 2 with h3|h3
  ·have:e=1:=by
    rcases zaD e with h0|h0
    ·subst h0;simp at he;omega
    ·omega
   subst this;omega
  ·exfalso;rcases Nat.le_total d e with RD|RD
   ·exact cI d e h2 h3 RD he
   ·exact cI e d h3 h2 RD (by rw[he,zar])
theorem adS (x:Int) (b:Nat):∀m:Nat,(x*x)^m*x^b=x^(2*m+b)
 |0=>by simp
 |m+1=>by
  have ih:=adS x b m;rw[show 2*(m+1)+b=2*m+b+1+1 by omega,zaL,zaL (n:=2*m+b+1),zaL (n:=2*m+b),<-ih]
  grind
theorem amO {p:Int} (hp:eW p):∀(n:Nat) (out x:Int),uQ p out x n%p=out*x^n%p:=by
 intro n;induction n using Nat.strongRecOn with
 |ind n ih=>
  intro out x;by_cases h0:n=0
  ·subst h0;rw[amN];simp
  ·rw[amP h0,ih (n/2) (by omega)];have e:x^n=(x*x)^(n/2)*x^(n%2):=by
    rw[adS,zaW]
   rw[e];have h1:((x*x%p)^(n/2))%p=((x*x)^(n/2))%p:=by
    have:∀k:Nat,((x*x%p)^k)%p=((x*x)^k)%p:=by
     intro k;induction k with
     |zero=>simp
     |succ k ih=>rw[zaL,zaL,zan,ih,zaQ,<-zan]
    exact this _
   by_cases hb:n%2=1
   ·rw[if_pos hb,hb,zan,h1,zaQ,<-zan];congr 1
    grind
   ·rw[if_neg hb,show n%2=0 by omega,zan,h1,<-zan];congr 1
    grind
theorem abo {p x:Int} (cr:dJ p=true) (hx:eU p x) (h0:x≠0):x*uQ p 1 x (p - 2).toNat%p=1:=by
 have hp:=fQ cr;have bJ:eW p:=⟨hp.1,hp.2⟩;obtain⟨n,rfl⟩:=iC (show 0<=p by omega);obtain⟨a,rfl⟩:=iC hx.1;have hN:=amS cr;simp only[zab] at hN;have ha:¬n∣a:=fun h=>by
  have:=zbM (by omega) h;have:=hx.2;omega
 have hf:=akS hN ha;have e:(((n:Int)) - 2).toNat=n - 2:=by omega
 rw[zan,amO bJ,e,za6,<-zan]
 exact_mod_cast hf
def iY (f g:Nat->Int):Nat->Int
 |0=>0
 |n+1=>iY f g n+f n*g n
theorem agB {p:Int} {f f' g:Nat->Int}:∀n,(∀k,k<n->∃q,f k=f' k+p*q)->∃q,iY f g n=iY f' g n+p*q
 |0,_=>⟨0,by simp[iY]⟩
 |n+1,h=>by
  obtain⟨q,hq⟩:=agB (g:=g) n fun k hk=>h k (by omega);obtain⟨q',gj⟩:=h n (by omega);exact⟨q+q'*g n,by simp only[iY,hq,gj];grind⟩
theorem WA (f f2 g:Nat->Int) (c:Int):∀n,iY (fun k=>f k+c*f2 k) g n=iY f g n+c*iY f2 g n
 |0=>by simp[iY]
 |n+1=>by simp only[iY,WA f f2 g c n];grind
theorem OK (f g g2:Nat->Int) (c:Int):∀n,iY f (fun k=>g k - c*g2 k) n=iY f g n - c*iY f g2 n
 |0=>by simp[iY]
 |n+1=>by simp only[iY,OK f g g2 c n];grind
theorem WB (f g:Nat->Int) (c:Int):∀n,iY (fun k=>f k*c) g n=iY f g n*c
 |0=>by simp[iY]
 |n+1=>by simp only[iY,WB f g c n];grind
theorem WC (f g:Nat->Int) (c:Int):∀n,iY f (fun k=>g k*c) n=iY f g n*c
 |0=>by simp[iY]
 |n+1=>by simp only[iY,WC f g c n];grind
def dl (a b:Nat):Int:=if a=b then 1 else 0
def ov (p:Int) (n:Nat) (E X:bF):Prop:=∀a,a<n->∀b,b<n->∃q,iY (E a) (fun k=>X k b) n=dl a b+p*q
theorem ov.congr {p:Int} {n:Nat} {E E' X:bF} (h:ov p n E X) (he:∀a,a<n->∀k,k<n->∃q,E' a k=E a k+p*q):ov p n E' X:=by
 intro a ha b hb;obtain⟨q,hq⟩:=h a ha b hb;obtain⟨q',gj⟩:=agB (p:=p) (f:=E' a) (f':=E a) (g:=fun k=>X k b) n (he a ha);exact⟨q+q',by rw[gj,hq];grind⟩
theorem ov.swap {p:Int} {n:Nat} {E X:bF} (h:ov p n E X) {s t:Nat} (hs:s<n) (ht:t<n):∃X',ov p n (fk E s t) X':=by
 let sw:Nat->Nat:=fun i=>if i=s then t else if i=t then s else i
 have El:∀i,i<n->sw i<n:=by
  intro i hi;show(if i=s then t else if i=t then s else i)<n
  split
  ·exact ht
  ·split
   ·exact hs
   ·exact hi
 have zd:∀i j,sw i=sw j->i=j:=by
  intro i j;show(if i=s then t else if i=t then s else i)=(if j=s then t else if j=t then s else j)->i=j
  intro h
  repeat' split at h
  all_goals omega
 refine⟨fun k b=>X k (sw b),fun a ha b hb=>?_⟩;obtain⟨q,hq⟩:=h (sw a) (El a ha) (sw b) (El b hb);refine⟨q,?_⟩;have e:fk E s t a=E (sw a):=by
  funext k;show(if a=s then E t k else if a=t then E s k else E a k)=E (if a=s then t else if a=t then s else a) k
  split
  ·rfl
  ·split<;>rfl
 rw[e,hq];congr 1;unfold dl;by_cases gD:a=b
 ·subst gD;simp
 ·rw[if_neg gD,if_neg fun h=>gD (zd _ _ h)]
theorem ov.atj {p inv u:Int} {n:Nat} {E X:bF} (h:ov p n E X) {t:Nat} (ht:t<n) (hu:u*inv%p=1):∃X',ov p n (x9 p inv E t) X':=by
 have nX:∃z,u*inv=1+p*z:=⟨u*inv/p,by have:=zaG (u*inv) p;omega⟩;obtain⟨z,hz⟩:=nX;refine⟨fun k b=>if b=t then X k t*u else X k b,ov.congr (E:=fun a k=>if a=t then E t k*inv else E a k) (fun a ha b hb=>?_) (fun a ha k hk=>?_)⟩
 ·obtain⟨q,hq⟩:=h a ha b hb;by_cases cV:a=t
  ·subst cV;by_cases rR:b=a
   ·subst rR;refine⟨z+q*inv*u,?_⟩;simp only[if_true];rw[WB,WC,hq,dl,if_pos rfl]
    grind
   ·refine⟨q*inv,?_⟩;simp only[if_true,if_neg rR];rw[WB,hq,dl,if_neg (Ne.symm rR)]
    grind
  ·by_cases rR:b=t
   ·subst rR;refine⟨q*u,?_⟩;simp only[if_neg cV,if_true];rw[WC];have:iY (fun k=>E a k) (fun k=>X k b) n=dl a b+p*q:=hq;rw[this,dl,if_neg cV]
    grind
   ·refine⟨q,?_⟩;simp only[if_neg cV,if_neg rR];exact hq
 ·unfold x9;by_cases cV:a=t
  ·simp only[cV,if_true];refine⟨-(E t k*inv/p),?_⟩;have:=zaG (E t k*inv) p;have e:p* -(E t k*inv/p)= -(p*(E t k*inv/p)):=zbl _ _;omega
  ·simp only[cV,if_false];exact⟨0,by simp⟩
theorem ov.add {p f:Int} {n:Nat} {E E' X:bF} (h:ov p n E X) {m t:Nat} (hm:m<n) (ht:t<n) (Eh:m≠t) (he:∀a,a<n->∀k,k<n->∃q,E' a k=(if a=m then E m k+f*E t k else E a k)+p*q):∃X',ov p n E' X':=by
 refine⟨fun k b=>if b=t then X k t - f*X k m else X k b,ov.congr (E:=fun a k=>if a=m then E m k+f*E t k else E a k) (fun a ha b hb=>?_) he⟩
 obtain⟨q1,h1⟩:=h a ha b hb;obtain⟨q2,h2⟩:=h t ht b hb;obtain⟨q3,h3⟩:=h a ha m hm;obtain⟨q4,h4⟩:=h t ht m hm;have mH:iY (fun k=>E a k) (fun k=>X k b) n=dl a b+p*q1:=h1;have D2:iY (fun k=>E t k) (fun k=>X k b) n=dl t b+p*q2:=h2;have y6:iY (fun k=>E a k) (fun k=>X k m) n=dl a m+p*q3:=h3;have h4':iY (fun k=>E t k) (fun k=>X k m) n=dl t m+p*q4:=h4;have d1:dl t m=0:=if_neg (Ne.symm Eh);by_cases Bh:a=m
 ·subst Bh;have d2:dl a a=1:=if_pos rfl;by_cases rR:b=t
  ·subst rR;have d3:dl a b=0:=if_neg Eh;have d4:dl b b=1:=if_pos rfl;refine⟨q1+f*q2 - f*q3 - f*f*q4,?_⟩;simp only[if_true];rw[WA,OK,OK,mH,D2,y6,h4',d1,d2,d3,d4]
   grind
  ·refine⟨q1+f*q2,?_⟩;have d3:dl t b=0:=if_neg (Ne.symm rR);simp only[if_true,if_neg rR];rw[WA,mH,D2,d3]
   grind
 ·by_cases rR:b=t
  ·subst rR;have d3:dl a m=0:=if_neg Bh;refine⟨q1 - f*q3,?_⟩;simp only[if_neg Bh,if_true];rw[OK,mH,y6,d3]
   grind
  ·refine⟨q1,?_⟩;simp only[if_neg Bh,if_neg rR];exact mH
def RK (p:Int) (n:Nat) (s:bF×aa×Int) (j:Nat):Prop:=
 (∃X,ov p n (fun a k=>s.1 a (n+k)) X)/\∀b,b<j->∀i,s.2.1.length<=i->i<n->s.1 i b=0
theorem RK.step {p:Int} {n:Nat} {s:bF×aa×Int} {j:Nat} (cr:dJ p=true) (hj:j<2*n) (I:RI p n (2*n) s j) (h:RK p n s j):RK p n (pO p n s j) (j+1):=by
 have hp:eW p:=fQ cr;obtain⟨⟨X,hX⟩,hz⟩:=h;obtain⟨M,L,d⟩:=s;simp only at hX hz;by_cases hl:L.length<n
 ·cases hk:tx M j (n - L.length) L.length with
  |none=>
   rw[aef (s:=(M,L,d)) hl hk];refine⟨⟨X,hX⟩,fun b hb i h1 h2=>?_⟩;by_cases Bi:b=j
   ·subst Bi;exact Ud hk i h1 (by simp only at h1;omega)
   ·exact hz b (by omega) i h1 h2
  |some k=>
   rw[aeg (s:=(M,L,d)) hl hk];simp only
   have hq:=NT hk;have Br:k<n:=by omega
   have hM:eR p n (2*n) M:=I.m;have hx:eU p (M k j):=hM k Br j hj;have El:fk M L.length k L.length j=M k j:=if_pos rfl;have hi:=abo cr hx hq.2.2;generalize alA:uQ p 1 (M k j) (p - 2).toNat=inv at hi;have alT:wv p M L.length j k=x9 p inv (fk M L.length k) L.length:=by unfold wv;rw[El,alA]
   rw[alT];have hS:eR p n (2*n) (fk M L.length k):=WG hM hl Br;generalize D4:x9 p inv (fk M L.length k) L.length=M2;have au4:eR p n (2*n) M2:=by rw[<-D4];exact afD hp hS _
   constructor
   ·obtain⟨X1,hX1⟩:=hX.swap (s:=L.length) (t:=k) hl Br;obtain⟨X2,hX2⟩:=hX1.atj (inv:=inv) (u:=M k j) hl hi;have Dm:ov p n (fun a b=>jT p M2 L.length j 0 a (n+b)) X2:=by
     rw[aiq,<-D4];exact hX2
    have cI:∀m,m<=n->∃X',ov p n (fun a b=>jT p M2 L.length j m a (n+b)) X':=by
     intro m;induction m with
     |zero=>intro _;exact⟨X2,Dm⟩
     |succ m ih=>
      intro hm;obtain⟨X',hX'⟩:=ih (by omega);by_cases Eh:m=L.length
      ·subst Eh;rw[ait];exact⟨X',hX'⟩
      ·refine hX'.add (f:=p - M2 m j) (m:=m) (t:=L.length) (by omega) hl Eh fun a ha b hb=>?_;show∃q,jT p M2 L.length j (m+1) a (n+b)=_;by_cases Bh:a=m
       ·subst Bh;rw[if_pos rfl];show∃q,jT p M2 L.length j (a+1) a (n+b)=(jT p M2 L.length j a a (n+b)+(p - M2 a j)*jT p M2 L.length j a L.length (n+b))+p*q;rw[ais,aiu];unfold jT;rw[if_pos ⟨by omega,Eh⟩];refine⟨-((M2 a (n+b)+(p - M2 a j)*M2 L.length (n+b))/p),?_⟩;have e1:=zaG (M2 a (n+b)+(p - M2 a j)*M2 L.length (n+b)) p;have e2:=zbl p ((M2 a (n+b)+(p - M2 a j)*M2 L.length (n+b))/p);omega
       ·rw[if_neg Bh];refine⟨0,?_⟩;show jT p M2 L.length j (m+1) a (n+b)=jT p M2 L.length j m a (n+b)+p*0;unfold jT;by_cases hc:a<m/\a≠L.length
        ·rw[if_pos hc,if_pos ⟨by omega,hc.2⟩];simp
        ·rw[if_neg hc,if_neg (by omega)];simp
    exact cI n (zae _)
   ·intro b hb i h1 h2;simp only[zaM,zas,zaF] at h1;show jT p M2 L.length j n i b=0;unfold jT;rw[if_pos ⟨h2,by omega⟩];have e2:∀c,M2 i c=fk M L.length k i c:=fun c=>by rw[<-D4];exact if_neg (by omega)
    have e3:∀c,M2 L.length c=M k c*inv%p:=fun c=>by rw[<-D4];show(if L.length=L.length then _ else _)=_;rw[if_pos rfl];congr 2;exact if_pos rfl
    by_cases Bi:b=j
    ·subst Bi;rw[e3 b,hi];have:M2 i b+(p - M2 i b)*1=p:=by omega
     rw[this];exact Int.emod_self
    ·have Rs:b<j:=by omega
     rw[e3 b,hz b Rs k hq.1 Br,e2 b];have:fk M L.length k i b=0:=by
      unfold fk;rw[if_neg (by omega)];split
      ·exact hz b Rs L.length (zae _) hl
      ·exact hz b Rs i (by omega) h2
     rw[this];simp
 ·unfold pO;rw[if_neg hl];exact⟨⟨X,hX⟩,fun b hb i h1 h2=>by simp only at h1;omega⟩
def auQ (n:Nat) (M:bF):bF:=fun a b=>if b<n then M a b else dl a (b - n)
def auR (n:Nat) (M:bF):bF:=dD (2*n) (aX n (2*n) (auQ n M))
def abn (p:Int) (n:Nat) (M:bF):bF×aa×Int:=dR p n (auR n M) (2*n)
def amQ (p:Int) (n:Nat) (M:bF):Prop:=∀i,i<n->(abn p n M).2.1.getD i 0=(i:Int)
instance (p:Int) (n:Nat) (M:bF):Decidable (amQ p n M):=inferInstanceAs (Decidable (∀i,i<n->(abn p n M).2.1.getD i 0=(i:Int)))
section
variable {p:Int} {n:Nat} {M R:bF} {L:aa}
end
section
variable {p:Int} {n:Nat} {M R:bF} {L:aa}
end
abbrev lQ:=Int×Int×aa
abbrev O6:=Int×Int×aa×List (Int×Int×aa)×aa
def OZ (k:Nat) (w:aa):Prop:=∀c∈w,0<=c/\c<(k:Int)
instance (k:Nat) (w:aa):Decidable (OZ k w):=inferInstanceAs (Decidable (∀c∈w,0<=c/\c<(k:Int)))
def ahT (x:O6):Bool:=match x with
 |(m,n,a,ms,b)=>dJ m&&(decide (0<=n/\n<=24)&&((wD m a&&decide ((a.length:Int)=n))&&((wD m b&&decide ((b.length:Int)=n))&&(decide (1<=ms.length/\ms.length<=4)&&ms.all fun y=>decide (y.1=n/\y.2.1=n/\y.2.2.length=n.toNat*n.toNat)&&wD m y.2.2))))
def aeb (x:O6×aa):Prop:=ahT x.1=true/\OZ x.1.2.2.2.1.length x.2/\x.2.length<=1048576
instance (x:O6×aa):Decidable (aeb x):=by unfold aeb;infer_instance
structure FQ (N:Nat) (p:Int) (n:Nat) (a:aa) (ms:List lQ) (b:aa):Prop where
 pr:dJ p=true
 hn:n<=N
 al:a.length=n
 ap:gy p a
 bl:b.length=n
 bp:gy p b
 l1:1<=ms.length
 l4:ms.length<=4
 hm:∀x∈ms,∃M:bF,x=((n:Int),(n:Int),aX n n M)/\eR p n n M
abbrev ahe:=FQ 12
abbrev ahd:=FQ 24
theorem FQ.p {N:Nat} {p:Int} {n:Nat} {a b:aa} {ms:List lQ} (h:FQ N p n a ms b):eW p:=fQ h.pr
theorem FQ.b {p:Int} {n:Nat} {a b:aa} {ms:List lQ} (h:ahe p n a ms b):ahd p n a ms b:=⟨h.pr,zbw h.hn (by omega),h.al,h.ap,h.bl,h.bp,h.l1,h.l4,h.hm⟩
section
variable {p:Int} {n:Nat} {a b:aa} {ms:List lQ}
end
section
variable {p:Int} {n m:Nat} {a b a2 b2:aa} {ms TN:List lQ}
end
section
variable {p sg:Int} {n m:Nat} {a b a2 b2:aa} {ms TN:List lQ}
end
section
variable {n:Int} {d:List (Int×Int)} {a b:Int}
end
def si (b a:Int) (l:aa):aa:=l.map fun x=>if x=b then a else x
def yN (l:aa) (i:Int):Int:=l.getD i.toNat 0
def zB (n:Nat):aa:=(List.range n).map fun i=>((i:Nat):Int)
def E1 (s:Nat) (i:Nat) (st:Int×aa) (e:Int×Int):Int×aa:=
 if s.testBit i=true/\yN st.2 e.1≠yN st.2 e.2 then(st.1 - 1,si (yN st.2 e.2) (yN st.2 e.1) st.2) else st
def parts (n:Int) (es:List (Int×Int)) (s:Int):Int×aa:=DX (E1 s.toNat) 0 (n,zB n.toNat) es
def Ts (s:Nat) (i:Nat) (l:aa) (e:Int×Int):aa:=
 if s.testBit i=true then si (max (yN l e.1) (yN l e.2)) (min (yN l e.1) (yN l e.2)) l else l
def QR (l:aa):Int:=((List.range l.length).countP fun i=>l.getD i 0==(i:Int):Nat)
theorem SW (n:Nat):(zB n).length=n:=by simp[zB]
theorem Up (b a:Int) (l:aa):(si b a l).length=l.length:=by simp[si]
theorem ab7 (a b:Int):iB a b=min a b:=by unfold iB;split<;>omega
theorem Yz (p:Nat->Bool) (j:Nat):(List.range (j+1)).countP p=(List.range j).countP p+(if p j=true then 1 else 0):=by
 rw[zbI,List.countP_append,List.countP_singleton]
theorem Yy (p q:Nat->Bool) (k:Nat):∀n,k<n->(∀i,i<n->i≠k->p i=q i)->p k=true->q k=false->(List.range n).countP p=(List.range n).countP q+1
 |0,h,_,_,_=>by omega
 |n+1,h,Sg,h1,h2=>by
  rw[Yz,Yz];by_cases hk:k=n
  ·subst hk;rw[h1,h2];have:(List.range k).countP p=(List.range k).countP q:=List.countP_congr fun i hi=>by
    have:=zaI.1 hi;rw[Sg i (by omega) (by omega)]
   rw[this];simp
  ·rw[Yy p q k n (by omega) (fun i hi=>Sg i (by omega)) h1 h2,Sg n (by omega) (by omega)];omega
structure FX (m:Nat) (l:aa) (c:Int) (q:aa):Prop where
 ll:l.length=m
 lq:q.length=m
 iN:∀i j:Nat,i<m->j<m->(l.getD i 0=l.getD j 0↔q.getD i 0=q.getD j 0)
 low:∀i:Nat,i<m->0<=l.getD i 0/\l.getD i 0<=(i:Int)/\l.getD (l.getD i 0).toNat 0=l.getD i 0
 jC:QR l=c
theorem aej {b a:Int} {l:aa} {i:Nat} (h:i<l.length):(si b a l).getD i 0=if l.getD i 0=b then a else l.getD i 0:=by
 simp[si,List.getD,zaj,zaa h]
theorem asH (b:Int) (l:aa):si b b l=l:=by
 unfold si
 conv=>rhs;rw[<-List.map_id l]
 refine zaK fun x _=>?_;split
 ·rename_i h;exact h.symm
 ·rfl
theorem ab6 {b a x y:Int}:((if x=b then a else x)=(if y=b then a else y))↔(x=y\/((x=b\/x=a)/\(y=b\/y=a))):=by
 constructor
 ·intro h;split at h<;>split at h<;>omega
 ·intro h;split<;>split<;>omega
theorem FX.step {m:Nat} {l:aa} {c:Int} {q:aa} (h:FX m l c q) {u v:Nat} (hu:u<m) (hv:v<m) {s i:Nat}:
  FX m (Ts s i l ((u:Int),(v:Int))) (E1 s i (c,q) ((u:Int),(v:Int))).1 (E1 s i (c,q) ((u:Int),(v:Int))).2:=by
 cases hb:s.testBit i with
 |false=>
  have e1:Ts s i l ((u:Int),(v:Int))=l:=if_neg (by rw[hb];decide);have e2:E1 s i (c,q) ((u:Int),(v:Int))=(c,q):=if_neg (fun hh=>by rw[hb] at hh;exact absurd hh.1 (by decide));rw[e1,e2];exact h
 |true=>
  have ep:q.getD u 0=q.getD v 0->E1 s i (c,q) ((u:Int),(v:Int))=(c,q):=fun h=>if_neg (fun hh=>hh.2 h);have en:q.getD u 0≠q.getD v 0->E1 s i (c,q) ((u:Int),(v:Int))=(c - 1,si (q.getD v 0) (q.getD u 0) q):=fun h=>if_pos ⟨hb,h⟩;have el:Ts s i l ((u:Int),(v:Int))=si (max (l.getD u 0) (l.getD v 0)) (min (l.getD u 0) (l.getD v 0)) l:=if_pos hb;obtain⟨ll,lq,iN,low,jC⟩:=h;by_cases hq:q.getD u 0=q.getD v 0
  ·have hl:=(iN u v hu hv).2 hq;rw[ep hq,el,hl,Int.max_self,Int.min_self,asH];exact⟨ll,lq,iN,low,jC⟩
  ·have hl:l.getD u 0≠l.getD v 0:=fun e=>hq ((iN u v hu hv).1 e);rw[en hq,el];obtain⟨lu0,lu1,TE⟩:=low u hu;obtain⟨lv0,lv1,TF⟩:=low v hv;obtain⟨lo,hi,e1,e2,cD,vT,alI,uI,xt,aaP⟩:∃lo hi:Nat,min (l.getD u 0) (l.getD v 0)=(lo:Int)/\max (l.getD u 0) (l.getD v 0)=(hi:Int)/\lo<hi/\
     (∀x:Int,(x=(hi:Int)\/x=(lo:Int))↔(x=l.getD v 0\/x=l.getD u 0))/\lo<m/\l.getD lo 0=(lo:Int)/\l.getD hi 0=(hi:Int)/\hi<m:=by
    obtain⟨a,ha⟩:=iC lu0;obtain⟨b,hb⟩:=iC lv0;rw[ha,zab] at TE;rw[hb,zab] at TF;rw[ha] at lu1 hl;rw[hb] at lv1 hl;rw[ha,hb];rcases zaY a b with gD|gD
    ·exact⟨a,b,by omega,by omega,gD,fun x=>by omega,by omega,TE,TF,by omega⟩
    ·exact⟨b,a,by omega,by omega,by omega,fun x=>by omega,by omega,TF,TE,by omega⟩
   rw[e1,e2];have gl:∀j,j<m->(si (hi:Int) (lo:Int) l).getD j 0=if l.getD j 0=(hi:Int) then(lo:Int) else l.getD j 0:=fun j hj=>aej (by omega)
   have gq:∀j,j<m->(si (q.getD v 0) (q.getD u 0) q).getD j 0=if q.getD j 0=q.getD v 0 then q.getD u 0 else q.getD j 0:=fun j hj=>aej (by omega)
   refine⟨by rw[Up];exact ll,by rw[Up];exact lq,?_,?_,?_⟩
   ·intro x y hx hy;rw[gl x hx,gl y hy,gq x hx,gq y hy,ab6,ab6,vT,vT,iN x y hx hy,iN x u hx hu,iN x v hx hv,iN y u hy hu,iN y v hy hv]
   ·intro x hx;obtain⟨h0,h1,h2⟩:=low x hx;rw[gl x hx];by_cases Sx:l.getD x 0=(hi:Int)
    ·rw[if_pos Sx];refine⟨by omega,by omega,?_⟩;rw[zab,gl lo alI,uI,if_neg (by omega)]
    ·rw[if_neg Sx];refine⟨h0,h1,?_⟩;rw[gl _ (by omega),h2,if_neg Sx]
   ·have hc:=Yy (fun j=>l.getD j 0==(j:Int)) (fun j=>(si (hi:Int) (lo:Int) l).getD j 0==(j:Int)) hi m aaP ?_ (by rw[xt];simp) (by rw[gl hi aaP,if_pos xt];simp;omega)
    ·unfold QR at jC⊢;rw[Up,ll];rw[ll,hc] at jC;omega
    ·intro j hj aE;rw[gl j hj];by_cases RW:l.getD j 0=(hi:Int)
     ·rw[if_pos RW,RW,Bool.eq_iff_iff];simp only[beq_iff_eq];constructor
      ·intro h;omega
      ·intro h;have:lo=j:=by omega
       subst this;omega
     ·rw[if_neg RW]
theorem SU {m i:Nat} (h:i<m):(zB m).getD i 0=(i:Int):=by
 simp[zB,List.getD,zaj,zaA h]
theorem FX.init (m:Nat):FX m (zB m) (m:Int) (zB m):=by
 refine⟨SW m,SW m,fun _ _ _ _=>Iff.rfl,fun i hi=>?_,?_⟩
 ·rw[SU hi,zab,SU hi];omega
 ·unfold QR;rw[SW];have:(List.range m).countP (fun i=>(zB m).getD i 0==(i:Int))=(List.range m).length:=by
   rw[List.countP_eq_length];intro i hi;rw[SU (zaI.1 hi)];simp
  rw[this,za2]

def cS (om:Bool) (w:Nat) (x y:Nat->Int) (t:Nat):Int:=sm w (fun i=>sm w (fun j=>kW om x y t i j))
def pc (x y:Nat->Int) (t:Nat):Int:=sm (t+1) (fun i=>x i*y (t - i))
theorem Ab:∀(n:Nat) {f:Nat->Int},(∀i,i<n->f i=0)->sm n f=0
 |0,_,_=>rfl
 |n+1,f,h=>by simp only[sm];rw[Ab n (fun i hi=>h i (by omega)),h n (by omega)];rfl
theorem ye {a:Nat} {f:Nat->Int}:∀(n:Nat),a<n->(∀i,i<n->i≠a->f i=0)->sm n f=f a
 |0,h,_=>by omega
 |n+1,h,hf=>by
  simp only[sm];by_cases e:a=n
  ·subst e;rw[Ab a (fun i hi=>hf i (by omega) (by omega))];omega
  ·rw[ye n (by omega) (fun i hi aE=>hf i (by omega) aE),hf n (by omega) (by omega)];omega
theorem V6 {m:Nat} {f:Nat->Int}:∀(n:Nat),m<=n->(∀i,i<n->m<=i->f i=0)->sm n f=sm m f
 |0,h,_=>by rw[show m=0 by omega]
 |n+1,h,hf=>by
  by_cases e:m=n+1
  ·rw[e]
  ·simp only[sm];rw[V6 n (by omega) (fun i hi hm=>hf i (by omega) hm),hf n (by omega) (by omega)];omega
theorem Cy {p:Int} {f g:Nat->Int}:∀{n:Nat},(∀i,i<n->f i%p=g i%p)->sm n f%p=sm n g%p
 |0,_=>rfl
 |n+1,h=>by simp only[sm];rw[zbS,Cy (n:=n) (fun i hi=>h i (by omega)),h n (by omega),<-zbS]
theorem F9 {w t:Nat} (x y:Nat->Int) (h:t<w):cS false w x y t=pc x y t:=by
 have gQ:∀i,i<w->sm w (fun j=>kW false x y t i j)=if i<=t then x i*y (t - i) else 0:=by
  intro i hi;split
  ·rename_i ze;rw[ye (a:=t - i) w (by omega) (fun j hj aE=>by unfold kW;rw[if_neg (by omega),if_neg (by simp)])];unfold kW;rw[if_pos (by omega)]
  ·exact Ab w fun j hj=>by unfold kW;rw[if_neg (by omega),if_neg (by simp)]
 unfold cS pc;rw[ku gQ,V6 (m:=t+1) w (by omega) (fun i hi hm=>if_neg (by omega))];exact ku fun i hi=>if_pos (by omega)
theorem aqR {p a b:Int} (gD:a%p=b%p):(-a)%p=(-b)%p:=by
 have:(0 - a)%p=(0 - b)%p:=by rw[zbT,gD,<-zbT]
 simpa using this
theorem Ye {om:Bool} {w t:Nat} {p:Int} {x x' y y':Nat->Int} (hx:∀i,i<w->x i%p=x' i%p) (hy:∀i,i<w->y i%p=y' i%p):cS om w x y t%p=cS om w x' y' t%p:=by
 refine Cy fun i hi=>Cy fun j hj=>?_;have hm:(x i*y j)%p=(x' i*y' j)%p:=by rw[zan,hx i hi,hy j hj,<-zan]
 unfold kW;split
 ·exact hm
 ·split
  ·exact aqR hm
  ·rfl
theorem Qc {om:Bool} {w t:Nat} {x x' y y':Nat->Int} (hx:∀i,i<w->x i=x' i) (hy:∀i,i<w->y i=y' i):cS om w x y t=cS om w x' y' t:=
 ku fun i hi=>ku fun j hj=>by unfold kW;rw[hx i hi,hy j hj]
theorem arZ (x y z:Nat->Int) {t:Nat} (h:t<6):pc (pc x y) z t=pc x (pc y z) t:=by
 match t,h with
 |0,_=>simp only[pc,sm,Nat.reduceSub,Nat.reduceAdd,zav];try grind
 |1,_=>simp only[pc,sm,Nat.reduceSub,Nat.reduceAdd,zav];try grind
 |2,_=>simp only[pc,sm,Nat.reduceSub,Nat.reduceAdd,zav];try grind
 |3,_=>simp only[pc,sm,Nat.reduceSub,Nat.reduceAdd,zav];try grind
 |4,_=>simp only[pc,sm,Nat.reduceSub,Nat.reduceAdd,zav];try grind
 |5,_=>simp only[pc,sm,Nat.reduceSub,Nat.reduceAdd,zav];try grind
theorem AS (x y:Nat->Int):cS true 4 x y 0=x 0*y 0 - x 1*y 3 - x 2*y 2 - x 3*y 1:=by simp[cS,sm,kW];grind
theorem AU (x y:Nat->Int):cS true 4 x y 1=x 0*y 1+x 1*y 0 - x 2*y 3 - x 3*y 2:=by simp[cS,sm,kW];grind
theorem AV (x y:Nat->Int):cS true 4 x y 2=x 0*y 2+x 1*y 1+x 2*y 0 - x 3*y 3:=by simp[cS,sm,kW];grind
theorem AW (x y:Nat->Int):cS true 4 x y 3=x 0*y 3+x 1*y 2+x 2*y 1+x 3*y 0:=by simp[cS,sm,kW]
theorem aiw (x y z:Nat->Int) {t:Nat} (h:t<4):cS true 4 (cS true 4 x y) z t=cS true 4 x (cS true 4 y z) t:=by
 match t,h with
 |0,_=>rw[AS,AS];simp only[AS,AU,AV,AW];grind
 |1,_=>rw[AU,AU];simp only[AS,AU,AV,AW];grind
 |2,_=>rw[AV,AV];simp only[AS,AU,AV,AW];grind
 |3,_=>rw[AW,AW];simp only[AS,AU,AV,AW];grind
theorem aia {k p:Int} {w:Nat} (c:Ji k p w) (x y z:Nat->Int) {t:Nat} (h:t<w):cS (decide (k=8)) w (cS (decide (k=8)) w x y) z t=cS (decide (k=8)) w x (cS (decide (k=8)) w y z) t:=by
 by_cases h8:k=8
 ·obtain rfl:=c.w8 h8;rw[decide_eq_true h8];exact aiw x y z h
 ·rw[decide_eq_false h8];have h6:=c.cw;rw[Qc (x':=pc x y) (y':=z) (fun i hi=>F9 x y hi) (fun _ _=>rfl),F9 _ _ h,Qc (x':=x) (y':=pc y z) (fun _ _=>rfl) (fun i hi=>F9 y z hi),F9 _ _ h];exact arZ x y z (by omega)
theorem Qy (p:Int) (om:Bool) (w:Nat) (x y:Nat->Int):uq p om w x y=mX w fun t=>cS om w x y t%p:=rfl
theorem Gj {r:Int×Int×Int} (h:r.1=7\/r.1=8) (x y:aa):qu r x y=uq r.2.1 (decide (r.1=8)) (cB r) (dt x) (dt y):=if_pos h
theorem ab8 {a b c p:Int} (hp:0<=p) (ha:0<=a) (hb:0<=b) (hc:0<=c):min (min (a*b) p*c) p=min (a*b*c) p:=by
 generalize hm:a*b=m;by_cases h:m<=p
 ·rw[show min m p=m by omega]
 ·rw[show min m p=p by omega];by_cases h0:c=0
  ·subst h0;simp
  ·have h1:p*1<=p*c:=zai (by omega) hp;have h2:p*c<=m*c:=Int.mul_le_mul_of_nonneg_right (by omega) hc;omega
theorem ag7 {r:Int×Int×Int} (hk:¬(r.1=7\/r.1=8)):cB r=1:=by
 obtain⟨k,p,n⟩:=r;simp only at hk;simp only[cB,mA];rw[if_neg (by omega),if_neg (by omega)];rfl
theorem arb {r:Int×Int×Int} (hr:jO r=true) (hk:¬(r.1=7\/r.1=8)) {a b c:Int} (ha:0<=a/\a<=fT r) (hb:0<=b/\b<=fT r) (hc:0<=c/\c<=fT r):sd r (sd r a b) c=sd r a (sd r b c):=by
 obtain⟨k,p,n⟩:=r;simp only at hk;rcases Ck hr with⟨rfl,rfl,rfl⟩|⟨rfl,hp,rfl⟩|⟨rfl,hp,rfl⟩|⟨rfl,hp,rfl⟩|⟨rfl,hp,rfl⟩|⟨rfl,rfl,hn⟩|⟨rfl,hp,hn⟩|⟨rfl,hp,qT,rfl⟩
 ·have o:∀u v,sd (1,0,0) u v=((u.toNat&&&v.toNat:Nat):Int):=fun _ _=>rfl;rw[o,o,o,o,zab,zab,zbN]
 ·have o:∀u v,sd (2,p,0) u v=u*v%p:=fun _ _=>rfl;rw[o,o,o,o,zan,zaQ,<-zan,zan a,zaQ,<-zan,zaO]
 ·have o:∀u v,sd (3,p,0) u v=min (u*v) p:=fun _ _=>rfl;rw[o,o,o,o,ab8 (by omega) ha.1 hb.1 hc.1,zbg a (min _ _),ab8 (by omega) hb.1 hc.1 ha.1,zaO a b c,zbg a]
 ·have o:∀u v,sd (4,p,0) u v=min (u+v) p:=fun _ _=>rfl;rw[o,o,o,o];omega
 ·have o:∀u v,sd (5,p,0) u v=min u v:=fun _ _=>rfl;rw[o,o,o,o];omega
 ·have o:∀u v,sd (6,0,n) u v=((u.toNat&&&v.toNat:Nat):Int):=fun _ _=>rfl;rw[o,o,o,o,zab,zab,zbN]
 ·omega
 ·omega
theorem mul_assoc {r:Int×Int×Int} {x y z:aa} (hr:jO r=true) (hx:oE r x=true) (hy:oE r y=true) (hz:oE r z=true):qu r (qu r x y) z=qu r x (qu r y z):=by
 by_cases hk:r.1=7\/r.1=8
 ·obtain⟨k,p,n⟩:=r;have c:=Qf hr hk;rw[Gj hk,Gj hk,Gj hk,Gj hk];simp only
  refine CI fun t ht=>?_;show cS (decide (k=8)) (cB (k,p,n)) (dt (uq p (decide (k=8)) (cB (k,p,n)) (dt x) (dt y))) (dt z) t%p=cS (decide (k=8)) (cB (k,p,n)) (dt x) (dt (uq p (decide (k=8)) (cB (k,p,n)) (dt y) (dt z))) t%p;have e1:cS (decide (k=8)) (cB (k,p,n)) (dt (uq p (decide (k=8)) (cB (k,p,n)) (dt x) (dt y))) (dt z) t%p=cS (decide (k=8)) (cB (k,p,n)) (cS (decide (k=8)) (cB (k,p,n)) (dt x) (dt y)) (dt z) t%p:=
   Ye (fun i hi=>by rw[Qy,QW _ hi,zaQ]) (fun _ _=>rfl)
  have e2:cS (decide (k=8)) (cB (k,p,n)) (dt x) (dt (uq p (decide (k=8)) (cB (k,p,n)) (dt y) (dt z))) t%p=cS (decide (k=8)) (cB (k,p,n)) (dt x) (cS (decide (k=8)) (cB (k,p,n)) (dt y) (dt z)) t%p:=
   Ye (fun _ _=>rfl) (fun i hi=>by rw[Qy,QW _ hi,zaQ])
  rw[e1,e2,aia c _ _ _ ht]
 ·have hw:=ag7 hk;obtain⟨a,b,rfl,rfl,ha,hb⟩:=yT hx hy hw;obtain⟨_,c,e,rfl,_,hc⟩:=yT hx hz hw;rw[uV hk,uV hk,uV hk,uV hk,arb hr hk ha hb hc]
theorem akY {k p n:Int} (hk:k=7\/k=8) {j:Nat} (hj:j<cB (k,p,n)):dt (EY (k,p,n)) j=if j=0 then 1 else 0:=by
 rw[aq9,QW _ hj,if_neg (show¬k=4 by omega),if_neg (show¬(k=5\/k=6) by omega)]
theorem ah9 {k p:Int} {w:Nat} (c:Ji k p w) (u:Nat->Int) (v:Int) {t:Nat} (h:t<w):cS (decide (k=8)) w u (fun j=>if j=0 then v else 0) t=u t*v:=by
 by_cases h8:k=8
 ·obtain rfl:=c.w8 h8;rw[decide_eq_true h8];match t,h with
  |0,_=>rw[AS];simp
  |1,_=>rw[AU];simp
  |2,_=>rw[AV];simp
  |3,_=>rw[AW];simp
 ·rw[decide_eq_false h8,F9 _ _ h];unfold pc;rw[ye (a:=t) (t+1) (by omega) (fun i hi aE=>by simp only;rw[if_neg (by omega),Int.mul_zero])];simp only
  rw[if_pos (by omega)]
theorem arc {k p n:Int} (hr:jO (k,p,n)=true) (hk:¬(k=7\/k=8)) {a:Int} (ha:0<=a/\a<=fT (k,p,n)):sd (k,p,n) a (if k=4 then 0 else if k=5\/k=6 then fT (k,p,n) else 1)=a:=by
 rcases Ck hr with⟨rfl,rfl,rfl⟩|⟨rfl,hp,rfl⟩|⟨rfl,hp,rfl⟩|⟨rfl,hp,rfl⟩|⟨rfl,hp,rfl⟩|⟨rfl,rfl,hn⟩|⟨rfl,hp,hn⟩|⟨rfl,hp,qT,rfl⟩
 ·have e:fT (1,0,0)=1:=rfl;have h1:a=0\/a=1:=by omega
  rcases h1 with rfl|rfl<;>decide
 ·have e:fT (2,p,0)=p - 1:=rfl;have:=fQ hp;show a*1%p=a;rw[zbE,za4 (by omega) (by omega)]
 ·have e:fT (3,p,0)=p:=rfl;show min (a*1) p=a;omega
 ·have e:fT (4,p,0)=p:=rfl;show min (a+0) p=a;omega
 ·have e:fT (5,p,0)=p:=rfl;show min a p=a;omega
 ·have e:fT (6,0,n)=2^n.toNat - 1:=rfl;have e2:(((2:Nat)^n.toNat:Nat):Int)=(2:Int)^n.toNat:=by push_cast;rfl
  show((a.toNat&&&(2^n.toNat - 1:Int).toNat:Nat):Int)=a;rw[show(2^n.toNat - 1:Int).toNat=2^n.toNat - 1 by omega,Nat.and_two_pow_sub_one_eq_mod,zat (by omega)];omega
 ·omega
 ·omega
theorem mul_one {r:Int×Int×Int} {x:aa} (hr:jO r=true) (hx:oE r x=true):qu r x (EY r)=x:=by
 obtain⟨k,p,n⟩:=r;by_cases hk:k=7\/k=8
 ·have c:=Qf hr hk;rw[Gj hk,Qy];simp only
  have hT:fT (k,p,n)=p - 1:=by
   simp only[fT];rw[if_neg (by omega),if_neg (by omega),if_neg (by omega)]
  refine(CI fun t ht=>?_).trans (aum (LF hx));rw[Qc (x':=dt x) (y':=fun j=>if j=0 then 1 else 0) (fun _ _=>rfl) (fun i hi=>akY hk hi),ah9 c _ _ ht,zbE]
  have:=LD hx ht;rw[hT] at this;exact za4 this.1 (by omega)
 ·have hw:=ag7 (r:=(k,p,n)) hk;obtain⟨e,ha⟩:=Gr hx hw;have e1:EY (k,p,n)=[if k=4 then 0 else if k=5\/k=6 then fT (k,p,n) else 1]:=by simp only[EY];exact asK hw
  rw[e,e1,uV hk,arc hr hk ha]
abbrev Rg:=Int×Int×Int
abbrev T3:=aa×aa×aa
abbrev Ar:=Int×List aa
def jz (r:Rg) (t:T3):Bool:=jO r&&(decide (0<=j3 t.1 t.2.1)&&(decide ((t.2.2.length:Int)=j3 t.1 t.2.1*mA r)&&t.2.2.all (uP (fT r))))
def Xj:Rg×T3->Option Bool:=fun x=>if x.2.1.length<=1048576/\x.2.2.1.length<=1048576/\x.2.2.2.length<=1048576 then some (jz x.1 x.2) else none
def sD:Rg×T3->Option Bool:=Xj
def Qj (R:List aa) (ix:aa) (i:Nat):Int:=(R.getD i []).getD (ix.getD i 0).toNat 0
def agC (x:Ar×aa):Prop:=(1<=x.1.1/\x.1.1<=12)/\x.2.length<=12/\∀i,i<x.2.length->i<x.1.2.length/\(0<=x.2.getD i 0/\(x.2.getD i 0).toNat<(x.1.2.getD i []).length)/\0<=Qj x.1.2 x.2 i/\Qj x.1.2 x.2 i<=12
instance (x:Ar×aa):Decidable (agC x):=by unfold agC;infer_instance
def vk:aa->Option Int:=fun l=>if l.length<=12/\∀v∈l,1<=v/\v<=8 then some (dZ l) else none
def asv (l:aa) (o:Nat) (x:aa):aa:=l.take o++x++l.drop (o+x.length)
def adZ (x:Rg×T3×Int×aa):Prop:=jO x.1=true/\0<=x.2.2.1/\x.2.2.1.toNat*cB x.1+x.2.2.2.length<=x.2.1.2.2.length/\x.2.1.2.2.length<=1048576
instance (x:Rg×T3×Int×aa):Decidable (adZ x):=by unfold adZ;infer_instance
def LH (x:Rg×T3×Int):Prop:=jO x.1=true/\0<=x.2.2/\(x.2.2.toNat+1)*cB x.1<=x.2.1.2.2.length/\x.2.1.2.2.length<=1048576
instance (x:Rg×T3×Int):Decidable (LH x):=by unfold LH;infer_instance
def ah2 (D:aa) (c:Ar) (n:Nat):Bool:=decide (sm D.length (Qj c.2 (cA D n))%c.1≠0)
def Qv (r:Rg) (D:aa) (c:Ar) (A:aa):Nat->aa
 |0=>A
 |k+1=>if ah2 D c k=true then asv (Qv r D c A k) (k*cB r) (Jg r) else Qv r D c A k
def Yv (x:Rg×T3×Ar):Prop:=(x.2.1.1.length<=1048576/\x.2.1.2.1.length<=1048576/\x.2.1.2.2.length<=1048576)/\Qg (x.2.1,x.2.2)
instance (x:Rg×T3×Ar):Decidable (Yv x):=by unfold Yv;infer_instance
def Qw (r:Rg) (t:T3) (c:Ar):T3×Bool:=if jz r t=true/\aih (t,c)=true then((t.1,t.2.1,Qv r t.2.1 c t.2.2 (bh t.2.1)),true) else(([],[],[]),false)
def Ke:ar:=[(.agg,[.int .i64,.int .i64,.int .i64]),(.agg,[.list [.int .i64],.list [.int .i64],.list [.int .i64]])]
def UO:ar:=[(.one,[.bool])]
def aoU:aU:=[]
def Kz:ar:=[(.one,[.list [.int .i64]])]
def Vb:ar:=[(.one,[.int .i64])]
def apb:aU:=[]
def Pl (NN:Nat):((Int×(Int×Int))×(aa×(aa×aa)))->(Option Bool):=
 (fun(((i0,i1,i2),l3,l4,l5):((Int×(Int×Int))×(aa×(aa×aa))))=>
 (CP (i0,i1,i2)).af (fun b6=>
 aI (fw b6)
 (some false)
 ((yr (l3,l4,l5)).af (fun i7=>
 aI (mn i7 ((-1:Int)))
 ((qE (i0,i1,i2)).af (fun i8=>
 aI (c7 (aS (ae l5)) (du .i64 i7 i8))
 ((CT ((i0,i1,i2),l5)).af (fun b9=>
 some b9))
 (some false)))
 (some false)))))
def Pw (NN:Nat):aa->(Option Int):=
 (fun(l0:aa)=>
 cm (cH NN (fun((i1,l2,i3,i4):(Int×(aa×(Int×Int))))=>
 aI (cL i4 i3)
 ((di l2 i4).af (fun i5=>
 some (Sum.inl (du .i64 i1 i5,l2,i3,br .i64 i4 1))))
 (some (Sum.inr (Sum.inl i1))))
 ((1:Int),l0,aS (ae l0),(0:Int)))
 (fun i6=>
 some i6))
theorem eQ {α β:Type} (x:α) (f:α->Option β):(some x).af f=f x:=by
 have h:∀o:Option α,o=some x->o.af f=f x:=by intro o h;subst h;rfl
 exact h _ rfl
theorem yj {r:Rg} {L D A:aa} (h:jz r (L,D,A)=true):jO r=true/\(D.length<=12/\(∀x∈D,1<=x/\x<=8))/\j3 L D=(bh D:Int)/\(1<=bh D/\bh D<=4096)/\A.length=bh D*cB r/\lz D/\Li 4096 D=(bh D:Int)/\dZ D=(bh D:Int)/\A.all (uP (fT r))=true:=by
 simp only[jz,zac,decide_eq_true_eq] at h;obtain⟨h1,h2,h3,h4⟩:=h;have hw:=CN h1;by_cases ha:p9 L D=true/\dZ D<=4096
 ·have e:j3 L D=dZ D:=if_pos ha;have hd:=AO ha.1;have hl:=uf ha.1;have hI:=uZ (D:=D) fun x hx=>(hd x hx).1;have ft:=Cc (D:=D) fun x hx=>(hd x hx).1;refine⟨h1,⟨by omega,hd⟩,e.trans hI,⟨ft,by omega⟩,?_,⟨by omega,fun x hx=>by have:=hd x hx;omega⟩,?_,hI,h4⟩
  ·rw[e,hI,hw.1] at h3
   exact_mod_cast h3
  ·unfold Li;rw[Qd (by decide) _ 0 1 (fun x hx=>(hd x hx).1) (by decide) (by decide),za6,hI,zbd (by omega)]
 ·have e:j3 L D= -1:=if_neg ha;rw[e] at h2;exact absurd h2 (by decide)
theorem agT (L D:aa):j3 L D= -1\/(0<=j3 L D/\j3 L D<=4096):=by
 unfold j3;split
 ·rename_i h;have hd:=AO h.1;have hI:=uZ (D:=D) fun x hx=>(hd x hx).1;right;omega
 ·exact .inl rfl
theorem auy {L D:aa} {r:Rg} (h:jO r=true) (h0:0<=j3 L D):du .i64 (j3 L D) (mA r)=j3 L D*mA r:=by
 have hw:=CN h;have h1:j3 L D<=4096:=by
  rcases agT L D with e|e
  ·omega
  ·exact e.2
 have h2:j3 L D*mA r<=4096*6:=zaw h1 (by omega) (by omega) (by decide);have h3:0<=j3 L D*mA r:=za0 h0 (by omega);exact qv (by omega) (by omega)
theorem ajY (x:Rg×T3) (y:Bool) (h:sD x=some y):Pl aM x=some y:=by
 obtain⟨⟨k,p,n⟩,L,D,A⟩:=x;simp only[sD,Xj] at h;split at h
 ·rename_i hc;rw[<-h];simp only[Pl,CP,eQ];cases hr:jO (k,p,n) with
  |false=>rw[bS (b:=fw false) rfl];simp[jz,hr]
  |true=>
   rw[bN (b:=fw true) rfl,show yr (L,D,A)=some (j3 L D) from if_pos ⟨hc.1,hc.2.1⟩]
   simp only[eQ];by_cases h0:0<=j3 L D
   ·rw[bS (show mn _ _=true from bne_iff_ne.2 (by omega))]
    simp only[qE,eQ];rw[auy hr h0,nl];by_cases hl:(A.length:Int)=j3 L D*mA (k,p,n)
    ·rw[bS (show c7 _ _=true from beq_iff_eq.2 hl),show CT ((k,p,n),A)=some _ from if_pos ⟨hr,by have:=hc.2.2;omega⟩,eQ]
     simp[jz,hr,h0,hl]
    ·rw[bN (show c7 _ _=false from beq_eq_false_iff_ne.2 hl)]
     simp[jz,hr,hl]
   ·have:j3 L D= -1:=by rcases agT L D with e|e<;>omega
    rw[bN (show mn _ _=false by unfold mn;rw[this];rfl)];simp[jz,hr,h0]
 ·cases h
theorem akk (x:aa) (y:Int) (h:vk x=some y):Pw aM x=some y:=by
 simp only[vk] at h;split at h
 ·rename_i hc;rw[<-h];obtain⟨hl,hv⟩:=hc;have hb:∀k,k<=x.length->1<=dZ (x.take k)/\dZ (x.take k)<=8^k:=by
   intro k;induction k with
   |zero=>exact fun _=>⟨za7 1,za7 1⟩
   |succ k ih=>
    intro hk;obtain⟨i1,i2⟩:=ih (by omega);have h1:=hv _ (zap (getD_some 0 (show k<x.length by omega)));rw[E5 (by omega)];have a1:1*1<=dZ (x.take k)*x.getD k 0:=zaw i1 h1.1 (by decide) (by omega);have a2:dZ (x.take k)*x.getD k 0<=8^k*8:=zaw i2 h1.2 (by omega) (by exact Int.pow_nonneg (by decide));exact⟨by omega,by rw[zaL];exact a2⟩
  have Mh:∀k,k<=12->(8:Int)^k<=68719476736:=by decide
  simp only[Pw];rw[fS (fun k=>(dZ (x.take k),x,aS (ae x),(k:Int))) x.length ?a1 ?a2 ?a3 (eP (by omega))]
  case a3=>rfl
  case a2=>dsimp only;rw[bN (xV x)]
  case a1=>
   intro k hk;have g:=getD_some (0:Int) hk;have h1:=hb (k+1) (by omega);have h2:=Mh (k+1) (by omega);rw[E5 hk] at h1;dsimp only
   rw[bS (eB (by rw[nl];omega)),fq,g,eQ,qv (by omega) (by omega),fU (by omega) (by omega),<-E5 hk];rfl
  simp only[cm,Option.bind,zaJ]
 ·cases h
def vl:Rg×T3×Int->Option (Int×Int):=fun x=>if LH x then some (((x.2.2.toNat*cB x.1:Nat):Int),(((x.2.2.toNat+1)*cB x.1:Nat):Int)) else none
def KB:ar:=[(.agg,[.int .i64,.int .i64,.int .i64]),(.agg,[.list [.int .i64],.list [.int .i64],.list [.int .i64]]),(.one,[.int .i64])]
def asW:ar:=[(.one,[.int .i64]),(.one,[.int .i64])]
def NB:aU:=[[some .aL,some .aL],[],[none,none,some .bc]]
def Py (NN:Nat):((Int×(Int×Int))×((aa×(aa×aa))×Int))->(Option (Int×Int)):=
 (fun(((i0,i1,i2),(l3,l4,l5),i6):((Int×(Int×Int))×((aa×(aa×aa))×Int)))=>
 (qE (i0,i1,i2)).af (fun i7=>
 (j0 (du .i64 i6 i7) (du .i64 (br .i64 i6 1) i7) (ae l5)).af (fun(k8,k9)=>
 (dB (0:Int) (ae l5)).af (fun k10=>
 some (aS (aH 0 k8),aS (aH (aH 0 k8) k9))))))
theorem BH {α:Type} {a b:Prop} [Decidable a] [Decidable b] (h:a↔b) (x y:α):(if a then x else y)=if b then x else y:=by simp only[h]
theorem NC {a b:Nat} (h:a*b<=1099511627776):du .i64 (a:Int) (b:Int)=((a*b:Nat):Int):=by
 have e:(a:Int)*(b:Int)=((a*b:Nat):Int):=(Int.natCast_mul a b).symm;rw[qv (by omega) (by omega),e]
theorem akm (x:Rg×T3×Int) (y:Int×Int) (h:vl x=some y):Py aM x=some y:=by
 obtain⟨⟨k,p,m⟩,⟨L,D,A⟩,n⟩:=x;simp only[vl] at h;split at h
 ·rename_i hc;rw[<-h];obtain⟨hr,h0,h1,h2⟩:=hc;dsimp only at hr h0 h1 h2;obtain⟨n,rfl⟩:=iC h0;have hw:=CN hr;simp only[zab] at h1⊢;have nV:(n+1)*cB (k,p,m)=n*cB (k,p,m)+cB (k,p,m):=by rw[Nat.add_mul,Nat.one_mul]
  have hn:n+1<=1048576:=by have:=Nat.le_mul_of_pos_right (n+1) (show 0<cB (k,p,m) by omega);omega
  simp only[Py,qE,eQ];rw[hw.1,fU (by omega) (by omega),show(n:Int)+1=((n+1:Nat):Int) by push_cast;rfl];rw[NC (a:=n) (b:=cB (k,p,m)) (by omega)];rw[NC (a:=n+1) (b:=cB (k,p,m)) (by omega)];rw[show j0 ((n*cB (k,p,m):Nat):Int) (((n+1)*cB (k,p,m):Nat):Int) (ae A)=some (n*cB (k,p,m),cB (k,p,m)) by
   unfold j0 ae;rw[if_pos ⟨by omega,by omega,by omega⟩];congr 2;omega]
  simp only[eQ];rw[show dB (0:Int) (ae A)=some 0 by unfold dB ae;rw[if_pos ⟨by omega,by omega⟩];rfl];simp only[eQ,aS,aH,zav];rw[nV]
 ·cases h
theorem EN {X Y:Type} {f:X->Option (X⊕Y)} (n:Nat) (I:Nat->X->Prop) (Q:Y->Prop)
  (h1:∀i x,i<n->I i x->∃x',f x=some (.inl x')/\I (i+1) x') (h2:∀x,I n x->∃r,f x=some (.inr r)/\Q r) {x0:X} (h0:I 0 x0) {N:Nat} (hN:n<N):∃r,cH N f x0=some r/\Q r:=by
 have cI:∀(k i:Nat) (x:X),i+k=n->I i x->∀N,k<N->∃r,cH N f x=some r/\Q r:=by
  intro k;induction k with
  |zero=>
   intro i x hi hx N hN;obtain⟨N,rfl⟩:∃M,N=M+1:=⟨N - 1,by omega⟩;have:i=n:=by omega
   subst this;obtain⟨r,e,q⟩:=h2 x hx;exact⟨r,by simp only[cH,e],q⟩
  |succ k ih=>
   intro i x hi hx N hN;obtain⟨N,rfl⟩:∃M,N=M+1:=⟨N - 1,by omega⟩;obtain⟨x',e,me⟩:=h1 i x (by omega) hx;obtain⟨r,e',q⟩:=ih (i+1) x' (by omega) me N (by omega);exact⟨r,by simp only[cH,e];exact e',q⟩
 exact cI n 0 x0 (by omega) h0 N hN
abbrev Cu:Type:=aa×Int×Int
def lk (c:Cu):Prop:=0<=c.2.1/\c.1.length<=1048576
theorem XP (a:Int):0<=qI .i64 a 255/\qI .i64 a 255<=255:=by
 have e:qI .i64 a 255=IntKind.wrap .i64 (((BitVec.ofInt 64 a&&&BitVec.ofInt 64 255).toNat:Nat):Int):=rfl;have h:(BitVec.ofInt 64 a&&&BitVec.ofInt 64 255).toNat<=255:=by
  rw[BitVec.toNat_and];exact zbw Nat.and_le_right (by decide)
 rw[e];generalize (BitVec.ofInt 64 a&&&BitVec.ofInt 64 255).toNat=m at h;rw[W9 _ (by omega) (by omega)];omega
theorem ak1 {α:Type}:bk 0 0 (ae ([]:List α))=some ():=rfl
theorem GI {α:Type} (l:List α) (x:α):bk 0 (aH (ae l) (ae [x])) (ae (fj l [x]))=some ():=by
 rw[show ae (fj l [x])=aH (ae l) (ae [x]) by simp[aH,ae,fj]];exact bE _
def KV:ar:=[(.one,[.list [.int .u8]])]
def Vx:ar:=[(.ptr,[.list [.int .u8],.int .i64,.int .i64])]
def apx:aU:=[[some .aL]]
def JJ (NN:Nat):aa->(Option (aa×(Int×Int))):=
 (fun(l0:aa)=>
 cm (cH NN (fun((l1,i2,i3):(aa×(Int×Int)))=>
 aI (cL i3 (aS (ae l1)))
 (aI (cL i3 (4000:Int))
 ((di l1 i3).af (fun i4=>
 some (Sum.inl (l1,qI .i64 (br .i64 (br .i64 (du .i64 i2 131) (Qx .i64 i4)) (7:Int)) (1073741823:Int),br .i64 i3 1))))
 (some (Sum.inr (Sum.inl (l1,i2)))))
 (some (Sum.inr (Sum.inl (l1,i2)))))
 (l0,br .i64 (55127:Int) (aS (ae l0)),(0:Int)))
 (fun(l5,i6)=>
 some (l5,(0:Int),i6)))
def C6:aa->(Option (aa×(Int×Int))):=JJ aM
theorem akH (x:aa) (z:(aa×(Int×Int))) (h:C6 x=some z):JJ aM x=some z:=h
def K5:ar:=[(.one,[.list [.int .u8]]),(.one,[.int .i64])]
def VE:ar:=[(.ptr,[.list [.int .u8],.int .i64,.int .i64])]
def apE:aU:=[[some .aL]]
def JQ (NN:Nat):(aa×Int)->(Option (aa×(Int×Int))):=
 (fun((l0,i1):(aa×Int))=>
 (C6 l0).af (fun(l2,i3,i4)=>
 some (l2,iB i1 (aS (ae l0)),qI .i64 (br .i64 (br .i64 (du .i64 i4 31) (du .i64 i1 7919)) (1:Int)) (1073741823:Int))))
def yC:(aa×Int)->(Option (aa×(Int×Int))):=JQ aM
theorem akO (x:(aa×Int)) (z:(aa×(Int×Int))) (h:yC x=some z):JQ aM x=some z:=h
def KU:ar:=[(.ptr,[.list [.int .u8],.int .i64,.int .i64])]
def Vw:ar:=[(.one,[.int .i64]),(.ptr,[.list [.int .u8],.int .i64,.int .i64])]
def apw:aU:=[[some .aL]]
def JI (NN:Nat):(aa×(Int×Int))->(Option (Int×(aa×(Int×Int)))):=
 (fun((l0,i1,i2):(aa×(Int×Int)))=>
 (Fk .i64 (br .i64 (du .i64 i2 6364136223846793005) (1442695040888963407:Int)) (33:Int)).af (fun i3=>
 (Fk .i64 (br .i64 (du .i64 i2 6364136223846793005) (1442695040888963407:Int)) (45:Int)).af (fun i4=>
 cm (aI (cL i1 (aS (ae l0)))
 ((di l0 i1).af (fun i5=>
 some (Sum.inl (qI .i64 (br .i64 (qI .i64 (Xa .i64 i3 i4) (255:Int)) (Qx .i64 i5)) (255:Int),l0,br .i64 i1 1,br .i64 (du .i64 i2 6364136223846793005) (1442695040888963407:Int)))))
 (some (Sum.inl (qI .i64 (Xa .i64 i3 i4) (255:Int),l0,i1,br .i64 (du .i64 i2 6364136223846793005) (1442695040888963407:Int)))))
 (fun(i6,l7,i8,i9)=>
 some (i6,l7,i8,i9)))))
def C5:(aa×(Int×Int))->(Option (Int×(aa×(Int×Int)))):=JI aM
theorem akG (x:(aa×(Int×Int))) (z:(Int×(aa×(Int×Int)))) (h:C5 x=some z):JI aM x=some z:=h
def KT:ar:=[(.ptr,[.list [.int .u8],.int .i64,.int .i64]),(.one,[.int .i64])]
def Vv:ar:=[(.one,[.int .i64]),(.ptr,[.list [.int .u8],.int .i64,.int .i64])]
def apv:aU:=[[some .aL]]
def JH (NN:Nat):((aa×(Int×Int))×Int)->(Option (Int×(aa×(Int×Int)))):=
 (fun(((l0,i1,i2),i3):((aa×(Int×Int))×Int))=>
 aI (iz i3 (0:Int))
 (some ((0:Int),l0,i1,i2))
 ((C5 (l0,i1,i2)).af (fun(i4,l5,i6,i7)=>
 (iM i4 i3).af (fun i8=>
 some (i8,l5,i6,i7)))))
def t9:((aa×(Int×Int))×Int)->(Option (Int×(aa×(Int×Int)))):=JH aM
theorem akF (x:((aa×(Int×Int))×Int)) (z:(Int×(aa×(Int×Int)))) (h:t9 x=some z):JH aM x=some z:=h
def KW:ar:=[(.ptr,[.list [.int .u8],.int .i64,.int .i64]),(.one,[.int .i64])]
def Vy:ar:=[(.one,[.bool]),(.ptr,[.list [.int .u8],.int .i64,.int .i64])]
def apy:aU:=[[some .aL]]
def JK (NN:Nat):((aa×(Int×Int))×Int)->(Option (Bool×(aa×(Int×Int)))):=
 (fun(((l0,i1,i2),i3):((aa×(Int×Int))×Int))=>
 (t9 ((l0,i1,i2),i3)).af (fun(i4,l5,i6,i7)=>
 some (c7 i4 (0:Int),l5,i6,i7)))
def yB:((aa×(Int×Int))×Int)->(Option (Bool×(aa×(Int×Int)))):=JK aM
theorem akI (x:((aa×(Int×Int))×Int)) (z:(Bool×(aa×(Int×Int)))) (h:yB x=some z):JK aM x=some z:=h
def KX:ar:=[(.ptr,[.list [.int .u8],.int .i64,.int .i64]),(.one,[.list [.int .i64]])]
def Vz:ar:=[(.one,[.int .i64]),(.ptr,[.list [.int .u8],.int .i64,.int .i64])]
def apz:aU:=[[some .aL]]
def JL (NN:Nat):((aa×(Int×Int))×aa)->(Option (Int×(aa×(Int×Int)))):=
 (fun(((l0,i1,i2),l3):((aa×(Int×Int))×aa))=>
 (t9 ((l0,i1,i2),aS (ae l3))).af (fun(i4,l5,i6,i7)=>
 (di l3 i4).af (fun i8=>
 some (i8,l5,i6,i7))))
def C7:((aa×(Int×Int))×aa)->(Option (Int×(aa×(Int×Int)))):=JL aM
theorem akJ (x:((aa×(Int×Int))×aa)) (z:(Int×(aa×(Int×Int)))) (h:C7 x=some z):JL aM x=some z:=h
def KS:ar:=[(.one,[.list [.int .u8]]),(.one,[.int .i64])]
def Vu:ar:=[(.one,[.int .i64])]
def apu:aU:=[[some .aL]]
def JG (NN:Nat):(aa×Int)->(Option Int):=
 (fun((l0,i1):(aa×Int))=>
 (yC (l0,i1)).af (fun(l2,i3,i4)=>
 (fg (((2:Int)::((3:Int)::((7:Int)::((101:Int)::((1000003:Int)::([]:aa))))))) 5).af (fun l5=>
 (C7 ((l2,i3,i4),l5)).af (fun(i6,l7,i8,i9)=>
 some i6))))
def C4:(aa×Int)->(Option Int):=JG aM
theorem akE (x:(aa×Int)) (z:Int) (h:C4 x=some z):JG aM x=some z:=h
theorem ah8 (c:Cu) (h:lk c):∃x c',C5 c=some (x,c')/\(0<=x/\x<=255)/\lk c':=by
 obtain⟨l,i,k⟩:=c;obtain⟨h0,h1⟩:=h;dsimp only at h0 h1;obtain⟨i,rfl⟩:=iC h0;obtain⟨s1,e1⟩:∃s,Fk .i64 (br .i64 (du .i64 k (6364136223846793005:Int)) (1442695040888963407:Int)) (33:Int)=some s:=⟨_,if_neg (by decide)⟩;obtain⟨s2,e2⟩:∃s,Fk .i64 (br .i64 (du .i64 k (6364136223846793005:Int)) (1442695040888963407:Int)) (45:Int)=some s:=⟨_,if_neg (by decide)⟩;simp only[C5,JI];rw[e1,e2];simp only[Option.af,Option.bind];by_cases hc:i<l.length
 ·rw[bS (eB (by unfold aS ae;omega))];rw[fq,zaa hc];simp only[cm,Option.bind];refine⟨_,_,rfl,XP _,?_,h1⟩;dsimp only
  rw[fU (by omega) (by omega)];omega
 ·rw[bN (d8 (by unfold aS ae;omega))];simp only[cm,Option.bind];exact⟨_,_,rfl,XP _,h0,h1⟩
theorem Dn (c:Cu) (n:Int) (h:lk c) (hn:1<=n):∃x c',t9 (c,n)=some (x,c')/\(0<=x/\x<n)/\x<=255/\lk c':=by
 obtain⟨l,i,k⟩:=c;obtain⟨x,⟨l',i',k'⟩,e,hx,hc⟩:=ah8 _ h;simp only[t9,JH];rw[bN (HS (by omega)),e];simp only[Option.af,Option.bind];rw[u5 hx.1 (by omega)];refine⟨_,_,rfl,⟨zaE _ (by omega),zaq _ (by omega)⟩,?_,hc⟩;have:=zaq x (show 0<n by omega);by_cases hl:x<n
 ·rw[za4 hx.1 hl];omega
 ·omega
theorem TY (c:Cu) (n:Int) (h:lk c) (hn:1<=n):∃b c',yB (c,n)=some (b,c')/\lk c':=by
 obtain⟨l,i,k⟩:=c;obtain⟨x,⟨l',i',k'⟩,e,_,_,hc⟩:=Dn _ n h hn;simp only[yB,JK];rw[e];exact⟨_,_,rfl,hc⟩
theorem ar2 (c:Cu) (l:aa) (h:lk c) (h1:l≠[]) (h2:l.length<=100):∃x c',C7 (c,l)=some (x,c')/\x∈l/\lk c':=by
 obtain⟨cl,i,k⟩:=c;have hl:1<=l.length:=by rcases l with _|⟨a,l⟩<;>simp_all
 obtain⟨x,⟨l',i',k'⟩,e,hx,_,hc⟩:=Dn (cl,i,k) (aS (ae l)) h (by unfold aS ae;omega);simp only[C7,JL];rw[e];simp only[Option.af,Option.bind];obtain⟨j,rfl⟩:=iC hx.1;have hj:j<l.length:=by unfold aS ae at hx;omega
 rw[fq,zaa hj];exact⟨_,_,rfl,zbz hj,hc⟩
theorem aqU (l:aa) (h:l.length<=1048576):∃c,C6 l=some c/\lk c:=by
 simp only[C6,JJ];generalize hL:cH aM _ _=o;obtain⟨r,rfl,z,rfl⟩:∃r,o=some r/\∃z,r=Sum.inl (l,z):=by
  rw[<-hL];refine EN (min l.length 4000) (fun i (x:aa×Int×Int)=>x.1=l/\x.2.2=(i:Int)) _ ?_ ?_ ⟨rfl,rfl⟩ (eP (by omega))
  ·intro i x hi hx;obtain⟨l1,i2,i3⟩:=x;dsimp only at hx⊢;obtain⟨rfl,rfl⟩:=hx;rw[bS (eB (by unfold aS ae;omega)),bS (eB (by omega)),fq,zaa (by omega)];exact⟨_,rfl,rfl,fU (by omega) (by omega)⟩
  ·intro x hx;obtain⟨l1,i2,i3⟩:=x;dsimp only at hx⊢;obtain⟨rfl,rfl⟩:=hx;by_cases hc:l1.length<=4000
   ·rw[bN (d8 (by unfold aS ae;omega))];exact⟨_,rfl,_,rfl⟩
   ·rw[bS (eB (by unfold aS ae;omega)),bN (d8 (by omega))];exact⟨_,rfl,_,rfl⟩
 exact⟨_,rfl,za7 _,h⟩
theorem PY (l:aa) (n:Int) (h:l.length<=1048576) (hn:0<=n):∃c,yC (l,n)=some c/\lk c:=by
 obtain⟨⟨l',i',k'⟩,e,hc⟩:=aqU l h;simp only[yC,JQ];rw[e];refine⟨_,rfl,?_,hc.2⟩;dsimp only
 rw[ab7];unfold aS ae;omega
theorem asd (l:aa) (n:Int) (h:l.length<=1048576) (hn:0<=n):∃x,C4 (l,n)=some x/\x∈[(2:Int),3,7,101,1000003]:=by
 obtain⟨⟨l',i',k'⟩,e,hc⟩:=PY l n h hn;obtain⟨x,⟨l1,i1,k1⟩,e1,hx,hc⟩:=ar2 _ [(2:Int),3,7,101,1000003] hc (by simp) (by simp);simp only[C4,JG];rw[e];simp only[Option.af,Option.bind,fg,zas,zaF,zae,if_true,List.take];rw[e1];exact⟨_,rfl,hx⟩
def abA (x:Int×lQ×lQ):Prop:=eW x.1/\tr x.2.1/\tr x.2.2/\(x.2.1.1*x.2.2.1<=4096/\x.2.1.2.1*x.2.2.2.1<=4096)/\(x.2.1.1*x.2.2.1)*(x.2.1.2.1*x.2.2.2.1)<=1048576/\gy x.1 x.2.1.2.2/\gy x.1 x.2.2.2.2
instance (x:Int×lQ×lQ):Decidable (abA x):=by unfold abA;infer_instance
section
variable {p:Int} {r c s d:Nat} {A B:bF}
end
section
variable {p:Int} {n m:Nat} {a b a2 b2:aa} {ms TN:List lQ}
end
theorem YV (p:Int) (f g:Nat->Int):∀n,lA p f g n=sm n (fun t=>f t*g t)%p
 |0=>by simp[lA,sm]
 |n+1=>by simp only[lA,sm];rw[YV p f g n,zbu]
theorem afZ (n:Nat) (f:Nat->Int):∀m,sm (n+m) f=sm n f+sm m (fun t=>f (n+t))
 |0=>by simp[sm]
 |m+1=>by rw[<-Nat.add_assoc];simp only[sm];rw[afZ n f m];omega
theorem yf (c:Int) (f:Nat->Int):∀n,sm n (fun t=>c*f t)=c*sm n f
 |0=>by simp[sm]
 |n+1=>by simp only[sm];rw[yf c f n,Int.mul_add]
theorem af0 (c:Int) (f:Nat->Int) (n:Nat):sm n (fun t=>f t*c)=sm n f*c:=by
 rw[zbg,<-yf];exact ku fun i _=>zbg _ _
theorem IM (f g:Nat->Int):∀n,sm n (fun t=>f t+g t)=sm n f+sm n g
 |0=>by simp[sm]
 |n+1=>by simp only[sm];rw[IM f g n];omega
theorem IP (f:Nat->Nat->Int) (m:Nat):∀n,sm n (fun i=>sm m (fun j=>f i j))=sm m (fun j=>sm n (fun i=>f i j))
 |0=>by simp only[sm];exact(Ab m fun _ _=>rfl).symm
 |n+1=>by simp only[sm];rw[IP f m n,<-IM]
abbrev Wd:=aa
structure BI (p:Int) (n t:Nat) (S:List Wd×aa) (q:List Wd):Prop where
 dl:S.2.length=S.1.length*n
 dp:gy p S.2
 kn:S.1.length<=n
 qo:∀w∈q,OZ t w/\w.length<=S.1.length
 wo:∀w∈S.1,OZ t w/\w.length<=n
section
variable {p:Int} {n:Nat} {s b:aa} {ms:List lQ}
theorem BI.no {S:List Wd×aa} {w:Wd} {q:List Wd} (h:BI p n ms.length S (w::q)):BI p n ms.length S q:=⟨h.dl,h.dp,h.kn,fun v hv=>h.qo v (by simp[hv]),h.wo⟩
end
theorem aun {α:Type} {l:List α} {n:Nat} (h:n=l.length):fg l n=some l:=by subst h;unfold fg;rw[if_pos (zae _),zaJ]
section
variable {p:Int} {n:Nat} {s b:aa} {ms:List lQ}
end
section
variable {p:Int} {n:Nat} {s b:aa} {ms:List lQ}
end
def af8 (x:Int×lQ×lQ):Prop:=eW x.1/\(0<=x.2.1.1/\x.2.1.1<=x.2.1.2.1/\x.2.1.2.1<=12)/\(0<=x.2.2.1/\x.2.2.1<=12)/\x.2.2.2.1=x.2.1.2.1/\(x.2.1.2.2.length=x.2.1.1.toNat*x.2.1.2.1.toNat/\x.2.2.2.2.length=x.2.2.1.toNat*x.2.1.2.1.toNat)/\gy x.1 x.2.1.2.2/\gy x.1 x.2.2.2.2
instance (x:Int×lQ×lQ):Decidable (af8 x):=by unfold af8;infer_instance


def PV (p:Int) (M:bF) (i j:Nat):Prop:=(M i j+M j i)%p=0/\(i=j->M i j=0)
instance (p:Int) (M:bF) (i j:Nat):Decidable (PV p M i j):=by unfold PV;infer_instance
def XO (p:Int) (M:bF) (i:Nat):Prop:=∀j,j<i+1->PV p M i j
instance (p:Int) (M:bF) (i:Nat):Decidable (XO p M i):=by unfold XO;infer_instance
theorem aue {p a b:Int} (hp:eW p) (ha:eU p a) (hb:eU p b):iM (br .i64 a b) p=some ((a+b)%p):=by
 have h1:=hp.1;have h2:=hp.2;have h3:=ha.1;have h4:=ha.2;have h5:=hb.1;have h6:=hb.2;rw[fU (by omega) (by omega),Ur (by omega) (by omega)]
def bV (p a b:Int):Prop:=∃q,a=b+p*q
theorem bV.refl (p a:Int):bV p a a:=⟨0,by simp⟩
theorem DN (p a:Int):bV p (a%p) a:=⟨-(a/p),by have:=zaG a p;have e:=zbl p (a/p);omega⟩
theorem bV.trans {p a b c:Int} (h:bV p a b) (h':bV p b c):bV p a c:=by
 obtain⟨q,rfl⟩:=h;obtain⟨q',rfl⟩:=h';exact⟨q'+q,by rw[Int.mul_add];omega⟩
theorem bV.symm {p a b:Int} (h:bV p a b):bV p b a:=by
 obtain⟨q,rfl⟩:=h;exact⟨-q,by rw[zbl];omega⟩
theorem bV.add {p a b c d:Int} (h:bV p a b) (h':bV p c d):bV p (a+c) (b+d):=by
 obtain⟨q,rfl⟩:=h;obtain⟨q',rfl⟩:=h';exact⟨q+q',by grind⟩
theorem bV.mul {p a b c d:Int} (h:bV p a b) (h':bV p c d):bV p (a*c) (b*d):=by
 obtain⟨q,rfl⟩:=h;obtain⟨q',rfl⟩:=h';exact⟨q*d+b*q'+p*q*q',by grind⟩
theorem Y4 {p a b:Int} (h:bV p a b) (ha:eU p a) (hb:eU p b):a=b:=by
 obtain⟨q,hq⟩:=h;have h1:=ha.1;have h2:=ha.2;have h3:=hb.1;have h4:=hb.2;have hp:0<p:=by omega
 rcases Int.lt_trichotomy q 0 with h|h|h
 ·have:p*q<=p*(-1):=zai (by omega) (by omega);omega
 ·subst h;omega
 ·have:p*1<=p*q:=zai (by omega) (by omega);omega
section
variable {p inv:Int} {n k:Nat} {A:bF}
end
section
variable {p:Int} {n:Nat} {M:bF}
end
section
variable {p:Int} {n:Nat} {M:bF}
end

section
variable {p:Int} {n m:Nat} {a b a2 b2:aa} {ms TN:List lQ}
theorem afH {α:Type} (l r:List α) (v x:α) (k:Nat) (hk:k=l.length):bK (l++v::r) k x=l++x::r:=by
 subst hk;unfold bK;rw[List.set_append_right _ _ (zae _),zaT];rfl
end
def yd:Nat->aa->aa
 |0,l=>l
 |k+1,l=>if l.getD (k+1) 0<l.getD k 0 then yd k (bK (bK l (k+1) (l.getD k 0)) k (l.getD (k+1) 0)) else l
def pR (l:aa):Nat->aa
 |0=>l
 |i+1=>yd i (pR l i)
theorem afO:∀(k:Nat) (l:aa),(yd k l).length=l.length
 |0,_=>rfl
 |k+1,l=>by
  unfold yd;split
  ·rw[afO k];simp[bK]
  ·rfl
theorem aga (l:aa):∀i,(pR l i).length=l.length
 |0=>rfl
 |i+1=>by unfold pR;rw[afO,aga l i]
theorem atP {l:aa} {k:Nat} (h:k+1<l.length):∃p q a b,l=p++a::b::q/\p.length=k/\l.getD k 0=a/\l.getD (k+1) 0=b:=by
 refine⟨l.take k,l.drop (k+2),l[k],l[k+1],?_,by rw[zaU];omega,?_,?_⟩
 ·have h1:=zaH (l:=l) (i:=k) (by omega);have h2:=zaH (l:=l) (i:=k+1) (by omega);rw[<-h2,<-h1,zbe]
 ·rw[zaf,zaa (by omega)];rfl
 ·rw[zaf,zaa (by omega)];rfl
theorem afP:∀(k:Nat) (l:aa),k<l.length->(yd k l).Perm l
 |0,_,_=>zbj _
 |k+1,l,h=>by
  unfold yd;split
  ·refine(afP k _ (by simp[bK];omega)).trans ?_;obtain⟨p,q,a,b,e,hp,ha,hb⟩:=atP (l:=l) (k:=k) h;rw[ha,hb];subst e;have e1:bK (p++a::b::q) (k+1) a=p++a::a::q:=by
    have:=afH (p++[a]) q b a (k+1) (by simp[hp]);simpa using this
   rw[e1,afH p (a::q) a b k hp.symm];exact(List.Perm.swap a b q).append_left p
  ·exact zbj _
theorem agb (l:aa):∀i,i<=l.length->(pR l i).Perm l
 |0,_=>zbj _
 |i+1,h=>by unfold pR;exact(afP i _ (by rw[aga];omega)).trans (agb l i (by omega))
end Go.Am
