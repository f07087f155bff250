/- M123, M124, M125, M126, M127, L_FnSpins, Br1, Br2, WT: parts of the proof. No condition. -/
import Derived.Test.YtfhgbfllljehhaaM122
import Derived.Test.YtfhgbfllljehhaaM64
import GoSem.ClaimChange
import Derived.ChangeReads
import Derived.ReadAgain
import Derived.ChangeSame
import Derived.WalkKit
import Derived.ProofKit
import Derived.OpenShut
set_option linter.unusedVariables false
set_option linter.unusedSimpArgs false
open List renaming getElem?_eq_getElem->co,mem_filter->so,mem_append->AN,take_of_length_le->AT,mem_singleton->GB,append_nil->If,drop_zero->IS,getElem?_eq_some_iff->IT,mem_cons->OF,take_length->Pd,length_drop->Pe,getD_eq_getElem?_getD->zab,length_append->zac,length_range->zad,filter_congr->zae,length->zaf,map_cons->zag,any_eq_true->zai,length_take->zaj,not_mem_nil->zak,filter_eq_nil_iff->zam,length_map->zao,mem_of_getElem?->zar,getElem?_range->zat,getElem?_ofFn->zau,take_add_one->zav,getElem?_map->zaw,mem_map->zay,map_nil->zaA,length_cons->zaB,all_eq_true->zaC,map_append->zaF,drop_drop->zaI,mapM_cons->zaJ
open Sum renaming inl->wt,inr->By
open Int renaming toNat_natCast->AI,natCast_pow->zaE
open Bool renaming and_eq_true->BY,eq_iff_iff->zaD
open Classical renaming choose_spec->IN,choose->zal
open Nat renaming pow_le_pow_right->zaa,zero_mul->zap,pow_le_pow_left->zas,mul_comm->zax,le_of_eq->zaz,one_le_pow->zaH,pow_succ->zaK,one_mul->zaL,le_refl->zaM,zero_le->zaN
open Option renaming bind_eq_some_iff->zah,map_eq_some_iff->zan
open Array renaming getElem?_toList->zaq
open List.cons renaming injEq->zaG
namespace Go.Am
section
variable {r:Rg} {q:Nat}
theorem axx {t:T3} (h:zl (q:Int) t):t.2.1=bY q t.1:=by obtain⟨a,_,_,b⟩:=h;refine List.ext_getElem (by rw[uu,a]) fun i hi hj=>?_;rw[b _ (List.getElem_mem hi)];exact(List.getElem_map (fun _=>(q:Int))).symm
theorem NL {r:Rg} {L D A:U} (h:gC r (L,D,A)=true):mz L D=true/\aU D<=4096:=by obtain⟨_,_,ht,_⟩:=xQ h;have:=ang (S:=L) (DS:=D) (by omega);exact⟨this.1,this.2.1⟩
theorem aol {L D:U} (a:L.length<=12) (f:L.length=D.length) (b:∀l∈L,0<=l/\l<=99) (d:∀x∈D,1<=x/\x<=8) (hn:L.Nodup):mz L D=true:=by
 unfold mz;rw[BY,BY,decide_eq_true_eq,decide_eq_true_eq,decide_eq_true_eq];refine⟨a,f,fun j hj=>⟨b _ (fR hj),d _ (fR (by omega)),fun hm=>?_⟩⟩;rw[List.mem_take_iff_getElem] at hm;obtain⟨i,hi,e⟩:=hm;have c:i<j:=by omega
 rw[List.nodup_iff_pairwise_ne,List.pairwise_iff_getElem] at hn;refine hn i j (by omega) hj c ?_;rw[e,zab,co hj];rfl
theorem M5:∀J:U,aU (bY q J)=q^J.length
 |[]=>rfl
 |v::J=>by show((q:Int)).toNat*aU (bY q J)=_;rw[AI,M5 J,zaB,zaK,zax]
structure GT (r:Rg) (q N:Nat) (t:T3):Prop where
 g:Hy r q t
 n:∀l∈t.1,0<=l/\l<N
variable {N:Nat}
theorem GT.mg {t:T3} (h:GT r q N t):gC r t=true:=h.g.2.1
theorem GT.dq {t:T3} (h:GT r q N t):t.2.1=bY q t.1:=axx h.g.1
theorem GT.nd {t:T3} (h:GT r q N t):t.1.Nodup:=by obtain⟨L,D,A⟩:=t;exact wT (NL h.mg).1
theorem GT.two {a b:T3} (ha:GT r q N a) (hb:GT r q N b):kZ a.1 (bY q a.1) b.1 (bY q b.1):=by have e:=ha.dq;have d:=hb.dq;have c:=ha.mg;have tb:=hb.mg;obtain⟨La,Da,A⟩:=a;obtain⟨Lb,Db,B⟩:=b;simp only at e d⊢;subst e d;exact⟨(NL c).1,(NL tb).1,(NL c).2,(NL tb).2,fun v f g=>by rw[Eh (gI f),Eh (gI g)]⟩
theorem Y8 {J:U} (hn:J.Nodup) (h:∀l∈J,0<=l/\l<N):J.length<=N:=by have:=List.Nodup.length_le_of_subset hn (l₂:=mf N) fun l hl=>QT.2 (h l hl);unfold mf at this;rw[zao,zad] at this;exact this
theorem ajN (c:1<=q) (d:q<=3) (h5:N<=5) {n:Nat} (hn:n<=N):1<=q^n/\q^n<=243:=by refine⟨zaH _ _ c,?_⟩;have a:=zas d n;have b:=zaa (show 0<3 by omega) (show n<=5 by omega);omega
theorem Ym {a b:T3} (ha:GT r q N a) (hb:GT r q N b):∀l∈jL a.1 b.1,0<=l/\l<N:=fun l hl=>(AA hl).elim (ha.n l) (hb.n l)
theorem Vq (hr:bc r=true) (k:1<=q) (o:q<=3) (j:N<=5) {a b:T3} (ha:GT r q N a) (hb:GT r q N b) (p:Int->Bool): OS r a.1 (bY q a.1) a.2.2 b.1 (bY q b.1) b.2.2 ((jL a.1 b.1).filter p)=(yj r a.1 (bY q a.1) a.2.2 b.1 (bY q b.1) b.2.2 ((jL a.1 b.1).filter p),true)/\GT r q N (yj r a.1 (bY q a.1) a.2.2 b.1 (bY q b.1) b.2.2 ((jL a.1 b.1).filter p)):=by have H:=ha.two hb;have sS:=H.aa4 p;have nJ:=H.xL.nJ;have u:=Ym ha hb;have f:∀l∈(jL a.1 b.1).filter p,0<=l/\l<N:=fun l hl=>u l ((so.1 hl).1);have nS:((jL a.1 b.1).filter p).Nodup:=nJ.filter p;have y:=Y8 nS f;have s:((jL a.1 b.1).filter p).map (jd a.1 (bY q a.1) b.1 (bY q b.1))=bY q ((jL a.1 b.1).filter p):=List.map_congr_left fun v w=>Yn ((so.1 w).1);have pJ:=ajN k o j (Y8 nJ u);have z:=ajN k o j y;have e:∀x∈bY q ((jL a.1 b.1).filter p),1<=x/\x<=8:=fun x hx=>(by obtain⟨v,_,rfl⟩:=zay.1 hx;omega);have h:=AV (D:=bY q ((jL a.1 b.1).filter p)) fun x hx=>(e x hx).1;have m:mz ((jL a.1 b.1).filter p) (bY q ((jL a.1 b.1).filter p))=true:=(by refine aol ?_ (uu q _).symm ?_ e nS;omega;exact fun l hl=>by have:=f l hl;omega);have i:iF ((jL a.1 b.1).filter p) (bY q ((jL a.1 b.1).filter p))=(aU (bY q ((jL a.1 b.1).filter p)):Int):=(by rw[<-h];exact ah ⟨m,by rw[h,M5];omega⟩);have A:gC r (a.1,bY q a.1,a.2.2)=true:=(by have:=ha.mg;rw[<-ha.dq];exact this);have tb:gC r (b.1,bY q b.1,b.2.2)=true:=(by have:=hb.mg;rw[<-hb.dq];exact this);have B:=SM H.xL H.Dw A tb;have t:=fun n=>KA hr B (C1 a.1 (bY q a.1) b.1 (bY q b.1) ((jL a.1 b.1).filter p) (bY q ((jL a.1 b.1).filter p))) n (aU (dm a.1 (bY q a.1) b.1 (bY q b.1)));refine⟨ah ⟨by rw[Qd,M5];omega,by rw[s,i];omega⟩,?_,f⟩;unfold yj;rw[s];have c:=zO (g:=fun n=>kK r (wB r a.1 (bY q a.1) a.2.2 b.1 (bY q b.1) b.2.2) (C1 a.1 (bY q a.1) b.1 (bY q b.1) ((jL a.1 b.1).filter p) (bY q ((jL a.1 b.1).filter p))) n (aU (dm a.1 (bY q a.1) b.1 (bY q b.1)))) (n:=aU (bY q ((jL a.1 b.1).filter p))) fun n _=>fJ (t n);refine⟨⟨(uu q _).symm,by show((jL a.1 b.1).filter p).length<=12;omega,fun l hl=>by have:=f l hl;omega,fun d hd=>by obtain⟨v,_,rfl⟩:=zay.1 hd;rfl⟩,?_,?_⟩;exact QN hr m h (by rw[M5];omega) c (OB _ fun n _=>O5 (t n));show(dR _ _).length<=1048576;rw[c,M5];have:=Nat.mul_le_mul z.2 (ku hr).2.2;omega
def tL (r:Rg) (q:Nat):List T3->(Int->Nat)->U
 |[],_=>cH r
 |t::ts,τ=>dg r (vT r q t τ) (tL r q ts τ)
def jz (ts:List T3) (v:Int):Bool:=ts.any fun t=>decide (v∈t.1)
def kT (r:Rg) (q N:Nat) (ts:List T3):U:=nQ r q ((mf N).filter (jz ts)) (tL r q ts) fun _=>0
theorem Zt (hr:bc r=true) (a:1<=q):∀{ts:List T3},(∀t∈ts,GT r q N t)->∀τ,bm r (tL r q ts τ)=true
 |[],_,_=>kA hr
 |t::ts,h,τ=>td hr (DE a (h t (by simp)).mg (h t (by simp)).dq τ) (Zt hr a (fun u b=>h u (by simp[b])) τ)
theorem ajO:∀{ts:List T3} {τ a:Int->Nat},(∀t∈ts,∀l∈t.1,τ l=a l)->tL r q ts τ=tL r q ts a
 |[],_,_,_=>rfl
 |t::ts,τ,a,h=>by show dg r _ _=dg r _ _;rw[aBw (h t (by simp)),ajO fun u b=>h u (by simp[b])]
theorem ayX (hr:bc r=true) (c:1<=q) {ts us:List T3} (p:ts.Perm us):(∀t∈ts,GT r q N t)->∀τ,tL r q ts τ=tL r q us τ:=by induction p with|nil=>exact fun _ _=>rfl|cons t _ e=>exact fun h τ=>congrArg (dg r (vT r q t τ)) (e (fun u d=>h u (by simp[d])) τ)|swap a b l=>intro h τ;have ha:=DE c (h a (by simp)).mg (h a (by simp)).dq τ;have hb:=DE c (h b (by simp)).mg (h b (by simp)).dq τ;have hl:=Zt hr c (ts:=l) (fun u d=>h u (by simp[d])) τ;show dg r (vT r q b τ) (dg r (vT r q a τ) _)=dg r (vT r q a τ) (dg r (vT r q b τ) _);rw[<-mul_assoc hr hb ha hl,<-mul_assoc hr ha hb hl,mul_comm hr hb ha]|trans p1 p2 i1 i2=>exact fun h τ=>(i1 h τ).trans (i2 (fun t f=>h t (p1.mem_iff.2 f)) τ)
theorem amW (hr:bc r=true) (c:1<=q) {ts us:List T3} (p:ts.Perm us) (h:∀t∈ts,GT r q N t):kT r q N ts=kT r q N us:=by unfold kT;have e:jz ts=jz us:=(by funext v;unfold jz;rw[zaD,zai,zai];exact⟨fun⟨t,a,b⟩=>⟨t,p.mem_iff.1 a,b⟩,fun⟨t,a,b⟩=>⟨t,p.mem_iff.2 a,b⟩⟩);rw[e];exact AL _ (fun τ _=>ayX hr c p h τ) fun _=>by omega
theorem Ij {ts:List T3} {v:Int}:jz ts v=true↔∃t∈ts,v∈t.1:=by unfold jz;rw[zai];exact⟨fun⟨t,a,b⟩=>⟨t,a,of_decide_eq_true b⟩,fun⟨t,a,b⟩=>⟨t,a,decide_eq_true b⟩⟩
theorem amX (hr:bc r=true) (j:1<=q) (I:q<=3) (B:N<=5) {a b:T3} {us:List T3} (ha:GT r q N a) (hb:GT r q N b) (K:∀t∈us,GT r q N t): kT r q N (a::b::us)=kT r q N (yj r a.1 (bY q a.1) a.2.2 b.1 (bY q b.1) b.2.2 ((jL a.1 b.1).filter (jz us))::us):=by have H:=ha.two hb;have L:=Ym ha hb;obtain⟨_,z⟩:=Vq hr j I B ha hb (jz us);have nJ:=H.xL.nJ;have C:gC r (a.1,bY q a.1,a.2.2)=true:=(by have:=ha.mg;rw[<-ha.dq];exact this);have tb:gC r (b.1,bY q b.1,b.2.2)=true:=(by have:=hb.mg;rw[<-hb.dq];exact this);have ea:a=(a.1,bY q a.1,a.2.2):=(by rw[<-ha.dq]);have eb:b=(b.1,bY q b.1,b.2.2):=(by rw[<-hb.dq]);generalize hS:(jL a.1 b.1).filter (jz us)=S at z⊢;generalize yB:yj r a.1 (bY q a.1) a.2.2 b.1 (bY q b.1) b.2.2 S=c at z⊢;have p:c.1=S:=(by rw[<-yB];rfl);have n:∀{v},v∈S↔v∈jL a.1 b.1/\jz us v=true:=fun{v}=>(by rw[<-hS,so]);have zk:=DE j ha.mg ha.dq;have IC:=DE j hb.mg hb.dq;have m:=Zt hr j K;have o:∀τ,bm r (tL r q (a::b::us) τ)=true:=fun τ=>td hr (zk τ) (td hr (IC τ) (m τ));have F:((mf N).filter (jz (a::b::us))).Perm ((mf N).filter (jz (c::us))++(jL a.1 b.1).filter fun v=> !decide (v∈S)):=(by refine(List.perm_ext_iff_of_nodup ((QU N).filter _) (List.nodup_append.2 ⟨(QU N).filter _,nJ.filter _,?_⟩)).2 fun v=>?_;intro u D w x e;subst e;have A:=(so.1 x).1;have E:=(so.1 x).2;obtain⟨t,d,f⟩:=Ij.1 (so.1 D).2;have k:u∉S:=(by simpa using E);rcases OF.1 d with rfl|d;exact k (p▸f);exact k (n.2 ⟨A,Ij.2 ⟨t,d,f⟩⟩);rw[so,AN,so,so,Ij,Ij,QT];constructor;rintro⟨f,t,d,g⟩;by_cases s:v∈S;exact .inl ⟨f,c,by simp,by rw[p];exact s⟩;rcases OF.1 d with rfl|d;exact .inr ⟨yW _ g,by simpa using s⟩;rcases OF.1 d with rfl|d;exact .inr ⟨CK _ g,by simpa using s⟩;exact .inl ⟨f,t,by simp[d],g⟩;rintro(⟨f,t,d,g⟩|⟨f,_⟩);refine⟨f,?_⟩;rcases OF.1 d with rfl|d;rw[p] at g;rcases AA (n.1 g).1 with h|h;exact⟨a,by simp,h⟩;exact⟨b,by simp,h⟩;exact⟨t,by simp[d],g⟩;refine⟨L v f,?_⟩;rcases AA f with h|h;exact⟨a,by simp,h⟩;exact⟨b,by simp,h⟩);unfold kT;rw[aiQ hr o F,Y4];refine AL _ (fun τ y=>?_) fun _=>(by omega);have M:∀τ:Int->Nat,tL r q (a::b::us) τ=dg r (dg r (vT r q a τ) (vT r q b τ)) (tL r q us τ):=fun τ=>(mul_assoc hr (zk τ) (IC τ) (m τ)).symm;rw[AL _ (fun τ _=>M τ) y,Y6 hr (fun τ=>td hr (zk τ) (IC τ)) m];show dg r _ _=dg r (vT r q c τ) _;rw[<-yB,apa hr j (by omega) C tb H (jz us) hS.symm y,<-ea,<-eb];intro v f g0 i;refine ajO fun t d l hl=>?_;refine Bn _ _ ?_;rintro rfl;obtain⟨G,J⟩:=so.1 f;have:l∉S:=(by simpa using J);exact this (n.2 ⟨G,Ij.2 ⟨t,d,hl⟩⟩)
end
def TM (NN:Nat):(Int×(Int×(Int×((List (U×(U×U)))×U))))->(Option (Int×(Int×(Int×((List (U×(U×U)))×U))))):=
 (fun(i0,i1,i2,l3,l4)=>
 (j7 l4).ab (fun l5=>
 cN ((bh 0 0 (ae (([]:List (U×(U×U)))))).ab (fun _=>
 (bh 0 0 (ae (([]:U)))).ab (fun _=>
 (bh 0 0 (ae (([]:List (U×(U×U)))))).ab (fun _=>
 aq l5 (
 cL NN (fun((l6,i7,i8),(i9,gd,fN),(e9,gm,ft),eQ,dn,dk,eG)=>
 aD (cI i8 i7)
 ((cV l6 i8).ab (fun(fE,iu,eU)=>
 (Gp (fE,iu,eU)).ab (fun(dY,gp,h9)=>
 (cB dY (ae dY)).ab (fun gR=>
 (cB gp (ae gp)).ab (fun iv=>
 (cB h9 (ae h9)).ab (fun ja=>
 aq dk (
 (bh 0 1 (ae (((gR,iv,ja)::[])))).ab (fun _=>
 (lR (aw (ae dk) (ae (((gR,iv,ja)::[])))) 72).ab (fun _=>
 aq eQ (
 aq dn (
 (bh 0 (aw (ae dk) (ae (((gR,iv,ja)::[])))) (ae (d6 dk (((gR,iv,ja)::[]))))).ab (fun _=>
 aq eG (
 some (wt ((l6,i7,bC .i64 i8 1),(i9,gd,fN),(e9,gm,ft),eQ,dn,d6 dk (((gR,iv,ja)::[])),eG)))))))))))))))
 ((aq eQ (
 aq dn (
 aq dk (
 aq eG (
 some (wt ((i9,gd,fN),(e9,gm,ft),eQ,dn,dk,eG))))))).ab (fun gX=>
 some (By gX))))
 ((l3,aM (ae l3),(0:Int)),((0:Int),(0:Int),(0:Int)),(i0,i1,i2),([]:List (U×(U×U))),([]:U),([]:List (U×(U×U))),l5))))))
 (fun((qK,lm,rA),(lp,oE,kf),pn,jw,jZ,nW)=>
 (cB jZ (ae jZ)).ab (fun tD=>
 (cB nW (ae nW)).ab (fun qN=>
 some (lp,oE,kf,tD,qN))))))
def Gn:=TM aP
theorem ac8 {r1 r2 r3:Int} {ts:List T3} (hl:ts.length<=1000) (hb:∀t∈ts,t.1.length<=1048576/\t.2.1.length<=1048576/\t.2.2.length<=1048576):Gn (r1,r2,r3,ts,[])=some (r1,r2,r3,ts,[]):=by simp only[Gn,TM,aq];rw[show j7 ([]:U)=some [] from ah (by simp)];simp only[bt,Es,bR];rw[gw (fun k=>((ts,aM (ae ts),(k:Int)),((0:Int),(0:Int),(0:Int)),(r1,r2,r3),([]:List T3),([]:U),ts.take k,([]:U))) ts.length ?a1 ?a2 ?a3 eZ];(case a3=>rfl);(case a2=>dsimp only;rw[aZ (d7 (by rw[nl];omega)),Pd];try simp only[bR,bt]);(case a1=>intro k e;obtain⟨t,b⟩:∃t,ts[k]? =some t:=⟨_,co e⟩;have c:=hb t (zar b);obtain⟨L,D,A⟩:=t;have d:ts.take (k+1)=ts.take k++[(L,D,A)]:=(by rw[zav,b];rfl);have a:(ts.take k).length<=100000:=(by rw[zaj];omega);dsimp only at c⊢;rw[bL (eD (by rw[nl];omega)),fC,b];simp only[bt];rw[show Gp (L,D,A)=some (L,D,A) from ah c];simp only[bt,gT,bR,Hx,zZ (l:=ts.take k) (x:=(L,D,A)) (k:=72) a (by omega),Ca];rw[ez,d];rfl);rw[fU];simp only[gT,bt]
def Tr (NN:Nat):((Int×(Int×(Int×((List (U×(U×U)))×U))))×U)->(Option ((Int×(Int×(Int×((List (U×(U×U)))×U))))×Bool)):=
 (fun((i0,i1,i2,l3,l4),l5)=>
 (xX (i0,i1,i2,l3,l4)).ab (fun b6=>
 aD (dz b6)
 (some (((0:Int),(0:Int),(0:Int),([]:List (U×(U×U))),([]:U)),false))
 ((Gn (i0,i1,i2,l3,l4)).ab (fun(i7,i8,i9,cf,eC)=>
 (j7 l5).ab (fun de=>
 (cg cf 0 (ae cf)).ab (fun dw=>
 (cg de 0 (ae de)).ab (fun dj=>
 (xX (i7,i8,i9,dw,dj)).ab (fun b15=>
 aD (dz b15)
 (some (((0:Int),(0:Int),(0:Int),([]:List (U×(U×U))),([]:U)),false))
 ((cB cf (ae cf)).ab (fun dn=>
 (cB de (ae de)).ab (fun dk=>
 some ((i7,i8,i9,dn,dk),true))))))))))))
def JD:=Tr aP
theorem axJ {q r1 r2 r3:Int} {ts:List T3} (hr:bc (r1,r2,r3)=true) (h:∀t∈ts,zl q t) (c:ts.length<=12) (a:∀t∈ts,gC (r1,r2,r3) t=true) (hb:∀t∈ts,t.2.2.length<=1048576): JD ((r1,r2,r3,ts,[]),[])=some ((r1,r2,r3,ts,[]),true):=by simp only[JD,Tr];rw[Ix hr h (by omega) a hb,decide_eq_true c];simp only[bt];rw[aZ (b:=dz true) rfl,ac8 (by omega) (fun t h'=>⟨by have:=(h t h').2.1;omega,by have:=(h t h').1;have:=(h t h').2.1;omega,hb t h'⟩)];simp only[bt];rw[show j7 ([]:U)=some [] from ah (by simp)];simp only[bt,fP];rw[Ix hr h (by omega) a hb,decide_eq_true c];simp only[bt,gT];rw[aZ (b:=dz true) rfl]
def Tv (NN:Nat):(Int×(Int×(Int×((List (U×(U×U)))×U))))->(Option (List (Int×Int))):=
 (fun(i0,i1,i2,l3,l4)=>
 (xX (i0,i1,i2,l3,l4)).ab (fun b5=>
 aD (dz b5)
 (some (([]:List (Int×Int))))
 (cN ((bh 0 0 (ae (([]:List (Int×Int))))).ab (fun _=>
 cL NN (fun((i6,i7),l8)=>
 aD (cI i7 (jE .i64 i6 1))
 (aD (bq i7 (0:Int))
 (aq l8 (
 (cg ((((0:Int),(1:Int))::[])) 0 1).ab (fun l9=>
 (lR (aw (ae l8) (ae l9)) 16).ab (fun _=>
 (bh 0 (aw (ae l8) (ae l9)) (ae (d6 l8 l9))).ab (fun _=>
 some (wt ((i6,bC .i64 i7 1),d6 l8 l9)))))))
 (aq l8 (
 (cg (((bC .i64 i7 1,jE .i64 (bC .i64 i6 i7) (1:Int))::[])) 0 1).ab (fun cf=>
 (lR (aw (ae l8) (ae cf)) 16).ab (fun _=>
 (bh 0 (aw (ae l8) (ae cf)) (ae (d6 l8 cf))).ab (fun _=>
 some (wt ((i6,bC .i64 i7 1),d6 l8 cf))))))))
 ((aq l8 (
 some (wt l8))).ab (fun eC=>
 some (By eC))))
 ((aM (ae l3),(0:Int)),([]:List (Int×Int)))))
 (fun de=>
 (cB de (ae de)).ab (fun dw=>
 some dw)))))
def JG:=Tv aP
theorem ayN {q r1 r2 r3:Int} {ts:List T3} (hr:bc (r1,r2,r3)=true) (h:∀t∈ts,zl q t) (g:ts.length<=12) (h1:1<=ts.length) (f:∀t∈ts,gC (r1,r2,r3) t=true) (hb:∀t∈ts,t.2.2.length<=1048576): JG (r1,r2,r3,ts,[])=some (j3 ts.length):=by simp only[JG,Tv,aq];rw[Ix hr h (by omega) f hb,decide_eq_true g];simp only[bt,Es,bR];rw[aZ (b:=dz true) rfl];have c:∀k,((j3 ts.length).take k).length<=100000:=fun k=>(by rw[zaj,Ft];omega);rw[gw (fun k=>((aM (ae ts),(k:Int)),(j3 ts.length).take k)) (ts.length - 1) ?a1 ?a2 ?a3 eZ];(case a3=>rfl);(case a2=>dsimp only;rw[aZ (d7 (by rw[nl,n8];omega)),AT (by rw[Ft];omega)];try simp only[bR,bt]);(case a1=>intro k i;have e:(j3 ts.length).take (k+1)=(j3 ts.length).take k++[rI ts.length k]:=(by rw[zav,Zg i];rfl);dsimp only;rw[bL (eD (by rw[nl,n8];omega)),e];by_cases d:k=0;subst d;rw[bL (b:=bq ((0:Nat):Int) 0) rfl];simp only[abz,bt,zZ (l:=(j3 ts.length).take 0) (x:=((0:Int),(1:Int))) (k:=16) (c 0) (by omega),Ca];rfl;rw[aZ te,ez,nl,ez (a:=(ts.length:Int)) (by omega) (by omega),n8,show rI ts.length k=((k:Int)+1,(ts.length:Int)+k - 1) from ak d];simp only[abz,bt,zZ (l:=(j3 ts.length).take k) (x:=((k:Int)+1,(ts.length:Int)+k - 1)) (k:=16) (c k) (by omega),Ca];rfl);rw[fU];simp only[gT,bt]
def Ua (NN:Nat):(Int×(Int×Int))->(Option (U×(U×U))):=
 (fun(i0,i1,i2)=>
 (qY (i0,i1,i2)).ab (fun l3=>
 (cB l3 (ae l3)).ab (fun l4=>
 some (([]:U),([]:U),l4))))
def Gv:=Ua aP
theorem az2 {r:Rg} (hr:bc r=true):Gv r=some ([],[],cH r):=by obtain⟨r1,r2,r3⟩:=r;simp only[Gv,Ua];rw[show qY (r1,r2,r3)=some (cH (r1,r2,r3)) from ah hr];simp only[bt,gT]
theorem afv {r:Rg} {q N:Nat} {x:U} (hr:bc r=true) (hx:bm r x=true):GT r q N ([],[],x):=by have hw:=ku hr;have hl:=fJ hx;refine⟨⟨⟨rfl,by simp,by simp,by simp⟩,?_,by dsimp only;omega⟩,by simp⟩;refine QN hr (by decide) rfl (by decide) ?_ (O5 hx);rw[hl];show _=1*_;rw[zaL]
def TG (NN:Nat):(U×U)->(Option Bool):=
 (fun(l0,l1)=>
 cN (cL NN (fun(l2,l3,i4,i5)=>
 aD (cI i5 i4)
 ((cV l3 i5).ab (fun i6=>
 (pF (l2,i6)).ab (fun b7=>
 aD (dz b7)
 (some (By (By false)))
 (some (wt (l2,l3,i4,bC .i64 i5 1))))))
 (some (By (wt ()))))
 (l1,l0,aM (ae l0),(0:Int)))
 (fun _=>
 some true))
def JJ:=TG aP
theorem an4 (L:U):JJ ([],L)=some true:=by
 simp only[JJ,TG];rw[gw (fun k=>(L,([]:U),aM (ae ([]:U)),(k:Int))) 0 (r:=wt ()) ?a1 ?a2 ?a3 eZ]
 case a3=>rfl
 case a2=>rfl
 case a1=>intro k hk;omega
 rfl
def T9 (NN:Nat):(U×U)->(Option Bool):=
 (fun(l0,l1)=>
 aD (jA (aM (ae l1)) (aM (ae l0)))
 (some false)
 (cN (cL NN (fun(l2,l3,l4,i5,i6)=>
 aD (cI i6 i5)
 ((cV l4 i6).ab (fun i7=>
 (jg (0:Int) i6 (ae l3)).ab (fun(k8,k9)=>
 (pF (fG l3 k8 k9,i7)).ab (fun ra=>
 aD (ra)
 (some (By (By false)))
 ((pF (l2,i7)).ab (fun DX=>
 aD (dz DX)
 (some (By (By false)))
 (some (wt (l2,l3,l4,i5,bC .i64 i6 1)))))))))
 (some (By (wt ()))))
 (l0,l1,l1,aM (ae l1),(0:Int)))
 (fun _=>
 some true)))
def JM:=T9 aP
theorem azV:JM ([],[])=some true:=by
 simp only[JM,T9];rw[aZ (sJ rfl),gw (fun k=>(([]:U),([]:U),([]:U),aM (ae ([]:U)),(k:Int))) 0 (r:=wt ()) ?a1 ?a2 ?a3 eZ]
 case a3=>rfl
 case a2=>rfl
 case a1=>intro k hk;omega
 rfl
def Tu (NN:Nat):((Int×(Int×Int))×((U×(U×U))×U))->(Option ((U×(U×U))×Bool)):=
 (fun((i0,i1,i2),(l3,l4,l5),l6)=>
 (qX ((i0,i1,i2),l3,l4,l5)).ab (fun b7=>
 aD (dz b7)
 (some ((([]:U),([]:U),([]:U)),false))
 ((JM (l3,l6)).ab (fun b8=>
 aD (dz b8)
 (some ((([]:U),([]:U),([]:U)),false))
 ((Gu ((i0,i1,i2),(l3,l4,l5),l6)).ab (fun(l9,cf,eC)=>
 (cB l9 (ae l9)).ab (fun de=>
 (cB cf (ae cf)).ab (fun dw=>
 (cB eC (ae eC)).ab (fun dj=>
 some ((de,dw,dj),true))))))))))
def JF:=Tu aP
theorem perm_nil {r:Rg} {x:U} (hr:bc r=true) (hx:bm r x=true):JF (r,([],[],x),[])=some (([],[],x),true):=by obtain⟨r1,r2,r3⟩:=r;have a:=(afv (q:=1) (N:=0) hr hx).mg;have hw:=ku hr;have hl:=fJ hx;simp only[JF,Tu];rw[show qX ((r1,r2,r3),([],[],x))=some (gC (r1,r2,r3) ([],[],x)) from ah ⟨by simp,by simp,by dsimp only;omega⟩,a];simp only[bt];rw[aZ (b:=dz true) rfl,azV];simp only[bt];have e:Q7 (r1,r2,r3) ([],[],x) []=([],[],x):=(by show(([],[],wV (r1,r2,r3) x _ 1):T3)=_;have:wV (r1,r2,r3) x (oL [] [] []) 1=x:=(by show[]++fG x (0*az (r1,r2,r3)) (az (r1,r2,r3))=x;unfold fG;rw[zap,IS,AT (zaz hl)];rfl);exact congrArg (fun y=>(([],[],y):T3)) this);rw[aZ (b:=dz true) rfl,show Gu ((r1,r2,r3),([],[],x),[])=some (Q7 (r1,r2,r3) ([],[],x) []) from ah ⟨a,rfl⟩,e];simp only[bt,gT]
def TA (NN:Nat):((Int×(Int×Int))×((U×(U×U))×U))->(Option (U×(U×U))):=
 (fun((i0,i1,i2),(l3,l4,l5),l6)=>
 (qX ((i0,i1,i2),l3,l4,l5)).ab (fun b7=>
 aD (dz b7)
 (some (([]:U),([]:U),([]:U)))
 ((Gv (i0,i1,i2)).ab (fun(l8,l9,cf)=>
 (cg l8 0 (ae l8)).ab (fun eC=>
 (cg l9 0 (ae l9)).ab (fun de=>
 (cg cf 0 (ae cf)).ab (fun dw=>
 (Bx ((i0,i1,i2),(l3,l4,l5),(eC,de,dw),l6)).ab (fun((dj,eQ,dn),zL)=>
 (cB dj (ae dj)).ab (fun eG=>
 (cB eQ (ae eQ)).ab (fun fE=>
 (cB dn (ae dn)).ab (fun iu=>
 some (eG,fE,iu))))))))))))
def JH:=TA aP
theorem aAZ {r:Rg} {q N:Nat} {t:T3} (hr:bc r=true) (m:1<=q) (w:q<=3) (s:N<=5) (a:GT r q N t): ∃x,bm r x=true/\JH (r,t,[])=some ([],[],x)/\x=kT r q N [t]:=by have k:=afv (q:=q) (N:=N) hr (kA hr);have H:=a.two k;have G:Mi t.1 (([],[],cH r):T3).1 []=(jL t.1 (([],[],cH r):T3).1).filter (jz []):=(by unfold Mi;refine zae fun v _=>?_;simp[jz]);have p:(jL t.1 (([],[],cH r):T3).1).filter (jz [])=[]:=zam.2 fun v _=>(by simp[jz]);obtain⟨hx,d⟩:=Vq hr m w s a k (jz []);have hs:=amX hr m w s a k (us:=[]) (by simp);rw[p] at hx d hs;generalize hc:yj r t.1 (bY q t.1) t.2.2 (([],[],cH r):T3).1 (bY q (([],[],cH r):T3).1) (([],[],cH r):T3).2.2 []=c at hx d hs;have l:c.1=[]:=(by rw[<-hc];rfl);have i:c.2.1=[]:=(by rw[d.dq,l];rfl);have h:c=([],[],c.2.2):=Prod.ext l (Prod.ext i rfl);have j:=DE m d.mg d.dq (fun _=>0);have f:c.2.2.length=az r:=(by have:=d.mg;rw[h] at this;obtain⟨_,_,_,_,F,_⟩:=xQ this;simpa[aU] using F);have B:vT r q c (fun _=>0)=c.2.2:=(by unfold vT nC;rw[l,i];show fG c.2.2 (0*az r) (az r)=_;unfold fG;rw[zap,IS,AT (zaz f)]);have n:kT r q N [c]=c.2.2:=(by unfold kT;have:(mf N).filter (jz [c])=[]:=zam.2 fun v _=>(by simp[jz,l]);rw[this];show dg r (vT r q c fun _=>0) (cH r)=_;rw[mul_one hr j,B]);have C:kT r q N [t,([],[],cH r)]=kT r q N [t]:=(by unfold kT;have e:jz [t,([],[],cH r)]=jz [t]:=(by funext v;simp[jz]);rw[e];refine AL _ (fun τ _=>?_) fun _=>(by omega);have I:vT r q ([],[],cH r) τ=cH r:=(by unfold vT nC;show fG (cH r) (0*az r) (az r)=_;unfold fG;rw[zap,IS,AT (zaz (fJ (kA hr)))]);show dg r _ (dg r (vT r q ([],[],cH r) τ) (cH r))=dg r _ (cH r);rw[I,mul_one hr (kA hr)]);refine⟨c.2.2,by rw[<-B];exact j,?_,by rw[<-n,<-hs,C]⟩;have hd:=a.dq;have y:=a.mg;have u:=a.g.2.2;have z:=a.g.1;obtain⟨L,D,A⟩:=t;obtain⟨r1,r2,r3⟩:=r;simp only at hd u;have hlD:D.length=L.length:=z.1.symm;have Xe:L.length<=12:=z.2.1;simp only[JH,TA];rw[show qX ((r1,r2,r3),(L,D,A))=some (gC (r1,r2,r3) (L,D,A)) from ah ⟨by dsimp only;omega,by dsimp only;omega,u⟩,y];simp only[bt];rw[aZ (b:=dz true) rfl,az2 hr];simp only[bt,fP];subst hd;have o:=ac2 (keep:=[]) (S:=[]) y k.mg H (by simp) (G.trans p);(try simp only at o);have E:OS (r1,r2,r3) L (bY q L) A [] [] (cH (r1,r2,r3)) []=(c,true):=hx;rw[o,E,h];simp only[bt,gT]
def Tn (NN:Nat):((Int×(Int×(Int×((List (U×(U×U)))×U))))×(U×(U×U)))->(Option ((U×(U×U))×Bool)):=
 (fun((i0,i1,i2,l3,l4),l5,l6,l7)=>
 (xX (i0,i1,i2,l3,l4)).ab (fun b8=>
 aD (dz b8)
 (some ((([]:U),([]:U),([]:U)),false))
 ((qX ((i0,i1,i2),l5,l6,l7)).ab (fun b9=>
 aD (dz b9)
 (some ((([]:U),([]:U),([]:U)),false))
 ((JJ (l4,l5)).ab (fun ra=>
 aD (dz ra)
 (some ((([]:U),([]:U),([]:U)),false))
 ((JH ((i0,i1,i2),(l5,l6,l7),l4)).ab (fun(eC,de,dw)=>
 (cg eC 0 (ae eC)).ab (fun dj=>
 (cg de 0 (ae de)).ab (fun eQ=>
 (cg dw 0 (ae dw)).ab (fun dn=>
 (JF ((i0,i1,i2),(dj,eQ,dn),l4)).ab (fun((dk,eG,fE),UW)=>
 (cB dk (ae dk)).ab (fun eU=>
 (cB eG (ae eG)).ab (fun dY=>
 (cB fE (ae fE)).ab (fun gp=>
 some ((eU,dY,gp),UW))))))))))))))))
def Gg:=Tn aP
theorem ari {r1 r2 r3:Int} {q N:Nat} {ts:List T3} {t:T3} (hr:bc (r1,r2,r3)=true) (f:1<=q) (j:q<=3) (i:N<=5) (h:∀t∈ts,GT (r1,r2,r3) q N t) (e:ts.length<=12) (a:GT (r1,r2,r3) q N t): Gg ((r1,r2,r3,ts,[]),t)=some (([],[],kT (r1,r2,r3) q N [t]),true):=by obtain⟨x,hx,hs,rfl⟩:=aAZ hr f j i a;have hd:=a.dq;have k:=a.mg;have c:=a.g.2.2;have d:=a.g.1;obtain⟨L,D,A⟩:=t;simp only at hd c;have hlD:D.length=L.length:=d.1.symm;have Xe:L.length<=12:=d.2.1;simp only[Gg,Tn];rw[Ix hr (fun t a=>(h t a).g.1) (by omega) (fun t a=>(h t a).mg) (fun t a=>(h t a).g.2.2),decide_eq_true e];simp only[bt];rw[aZ (b:=dz true) rfl,show qX ((r1,r2,r3),(L,D,A))=some (gC (r1,r2,r3) (L,D,A)) from ah ⟨by dsimp only;omega,by dsimp only;omega,c⟩,k];simp only[bt];rw[aZ (b:=dz true) rfl,an4];simp only[bt];rw[aZ (b:=dz true) rfl,hs];simp only[bt,fP];rw[perm_nil hr hx];simp only[bt,gT]
section
variable {r:Rg} {q N:Nat}
def jI (ts:List T3) (k:Nat) (t:T3):List T3:=if k=0 then ts else ts.drop (k+1)++[t]
def aK (ts:List T3) (k:Nat):T3:=ts.getD (if k=0 then 0 else k+1) ([],[],[])
def bK (ts:List T3) (k:Nat) (t:T3):T3:=if k=0 then ts.getD 1 ([],[],[]) else t
def nK (r:Rg) (q:Nat) (ts:List T3) (k:Nat) (t:T3):T3:=yj r (aK ts k).1 (bY q (aK ts k).1) (aK ts k).2.2 (bK ts k t).1 (bY q (bK ts k t).1) (bK ts k t).2.2 ((jL (aK ts k).1 (bK ts k t).1).filter (jz (ts.drop (k+2))))
theorem acf (v:Int):∀(ts:List T3) (i:Nat),ue v (mL i ts)=jz ts v
 |[],_=>rfl
 |t::ts,i=>by have a:=acf v ts (i+1);unfold ue jz at a⊢;simp only[mL,List.any_cons,a]
theorem ZC (ts:List T3) (k:Nat) (t:T3):rK ts k t.1=(jL (aK ts k).1 (bK ts k t).1).filter (jz (ts.drop (k+2))):=by
 unfold rK aK bK;have e:(if k=0 then(ts.getD 1 (([],[],[]):T3)).1 else t.1)=(if k=0 then ts.getD 1 ([],[],[]) else t).1:=by split<;>rfl
 rw[e];exact zae fun v _=>acf v _ _
structure CsK (ts:List T3) (k:Nat) (t:T3) (s:DT ts k t.1):Prop where
 ha:(jI ts k t)[s.i]? =some (aK ts k)
 hb:(jI ts k t)[s.j]? =some (bK ts k t)
 hs:iO s.i s.j 0 (jI ts k t)=ts.drop (k+2)
 hp:(jI ts k t).Perm (aK ts k::bK ts k t::ts.drop (k+2))
theorem adg {ts:List T3} {k:Nat} (d:k+1<ts.length) (t:T3) (s:DT ts k t.1):CsK ts k t s:=by
 have hi:=s.i0;have hj:=s.jk;by_cases a:k=0
 ·subst a;rw[ah rfl] at hj;match ts,d with
  |t0::t1::us,d=>
   have e:jI (t0::t1::us) 0 t=t0::t1::us:=ah rfl;have ea:aK (t0::t1::us) 0=t0:=rfl;have eb:bK (t0::t1::us) 0 t=t1:=rfl;refine⟨by rw[e,hi,ea];rfl,by rw[e,hj,eb];rfl,by rw[e,hi,hj,amm];rfl,by rw[e,ea,eb];exact List.Perm.refl _⟩
 ·rw[ak a] at hj;obtain⟨u,us,hd⟩:∃u us,ts.drop (k+1)=u::us:=by
   cases h:ts.drop (k+1) with
   |nil=>have:=congrArg zaf h;rw[Pe] at this;simp at this;omega
   |cons u us=>exact⟨u,us,rfl⟩
  have b:ts.drop (k+2)=us:=by rw[show k+2=(k+1)+1 by omega,<-zaI,hd];rfl
  have EL:us.length=ts.length - k - 2:=by rw[<-b,Pe];omega
  have f:ts[k+1]? =some u:=by
   have:=congrArg (·[0]?) hd;simpa[List.getElem?_drop] using this
  have e:jI ts k t=u::(us++[t]):=by unfold jI;rw[ak a,hd];rfl
  have ea:aK ts k=u:=by unfold aK;rw[ak a,zab,f];rfl
  have eb:bK ts k t=t:=ak a;have c:s.j=us.length+1:=by omega
  refine⟨by rw[e,hi,ea];rfl,?_,by rw[e,hi,c,amk,b],?_⟩
  ·rw[e,c,eb,List.getElem?_cons_succ,List.getElem?_append_right (zaM _),Nat.sub_self];rfl
  ·rw[e,ea,eb,b];exact List.Perm.cons u List.perm_append_comm
theorem OV (ts:List T3) (k:Nat) (t:T3):ts.drop (k+2)++[t]=jI ts (k+1) t:=by unfold jI;rw[ak (by omega)]
theorem adf {ts:List T3} {k:Nat} (hk:k<ts.length) (t:T3):(jI ts k t).length=ts.length - k:=by unfold jI;split;omega;rw[zac,Pe];simp only[zaB,List.length_nil];omega
structure N4 (r:Rg) (q N:Nat) (ts:List T3) (k:Nat) (t:T3):Prop where
 g:∀u∈jI ts k t,GT r q N u
 s:kT r q N (jI ts k t)=kT r q N ts
theorem atj {ts:List T3} (h:∀t∈ts,GT r q N t) (t:T3):N4 r q N ts 0 t:=⟨fun u a=>h u a,rfl⟩
theorem atk (hr:bc r=true) (d:1<=q) (m:q<=3) (j:N<=5) {ts:List T3} {k:Nat} (l:k+1<ts.length) {t:T3} (I:N4 r q N ts k t): Bx (r,aK ts k,bK ts k t,rK ts k t.1)=some (nK r q ts k t,true)/\N4 r q N ts (k+1) (nK r q ts k t):=by obtain⟨s⟩:=aa2 l t.1;have C:=adg l t s;have e:∀u∈aK ts k::bK ts k t::ts.drop (k+2),GT r q N u:=fun u a=>I.g u (C.hp.mem_iff.2 a);have b:=e (aK ts k) (by simp);have c:=e (bK ts k t) (by simp);have f:∀u∈ts.drop (k+2),GT r q N u:=fun u a=>e u (by simp[a]);obtain⟨hx,hn⟩:=Vq hr d m j b c (jz (ts.drop (k+2)));have H:=b.two c;have p:=Ym b c;have hJ:=Y8 H.xL.nJ p;constructor;have o:gC r ((aK ts k).1,bY q (aK ts k).1,(aK ts k).2.2)=true:=(by have:=b.mg;rw[<-b.dq];exact this);have tb:gC r ((bK ts k t).1,bY q (bK ts k t).1,(bK ts k t).2.2)=true:=(by have:=c.mg;rw[<-c.dq];exact this);have ea:aK ts k=((aK ts k).1,bY q (aK ts k).1,(aK ts k).2.2):=(by rw[<-b.dq]);have eb:bK ts k t=((bK ts k t).1,bY q (bK ts k t).1,(bK ts k t).2.2):=(by rw[<-c.dq]);have i:Mi (aK ts k).1 (bK ts k t).1 (rK ts k t.1)=(jL (aK ts k).1 (bK ts k t).1).filter (jz (ts.drop (k+2))):=(by unfold Mi;rw[ZC];refine zae fun v n=>?_;rw[zaD,decide_eq_true_eq,so];exact⟨fun h=>h.2,fun h=>⟨n,h⟩⟩);have hl:(rK ts k t.1).length<=1000:=(by rw[ZC];have:=List.length_filter_le (jz (ts.drop (k+2))) (jL (aK ts k).1 (bK ts k t).1);omega);have:=ac2 (keep:=rK ts k t.1) o tb H hl i;rw[<-ea,<-eb] at this;rw[this,hx];rfl;refine⟨fun u a=>?_,?_⟩;rw[<-OV] at a;rcases AN.1 a with a|a;exact f u a;rw[GB.1 a];exact hn;rw[<-I.s,amW hr d C.hp I.g,amX hr d m j b c f,<-OV];refine amW hr d (List.perm_append_singleton _ _) fun u a=>?_;rcases AN.1 a with a|a;exact f u a;rw[GB.1 a];exact hn
end
def Tt (NN:Nat):((Int×(Int×(Int×((List (U×(U×U)))×U))))×((List (Int×Int))×Int))->(Option ((Int×(Int×(Int×((List (U×(U×U)))×U))))×Bool)):=
 (fun((i0,i1,i2,l3,l4),l5,i6)=>
 (JE ((i0,i1,i2,l3,l4),l5)).ab (fun b7=>
 aD (dz b7)
 (some (((0:Int),(0:Int),(0:Int),([]:List (U×(U×U))),([]:U)),false))
 (aD (cI i6 (0:Int))
 (some (((0:Int),(0:Int),(0:Int),([]:List (U×(U×U))),([]:U)),false))
 (aD (cI (aM (ae l5)) i6)
 (some (((0:Int),(0:Int),(0:Int),([]:List (U×(U×U))),([]:U)),false))
 ((Gw (i0,i1,i2,l3,l4)).ab (fun a8=>
 (Gn (i0,i1,i2,l3,l4)).ab (fun(i9,gd,fN,de,dw)=>
 (jg (0:Int) i6 (ae l5)).ab (fun(k14,nV)=>
 cN ((bh 0 0 (ae (([]:List (U×(U×U)))))).ab (fun _=>
 (bh 0 0 (ae (([]:U)))).ab (fun _=>
 aq de (
 aq dw (
 cL NN (fun((dn,eP,ii),(fZ,eF,f0,dY,gp),(fO,mI,jv),(GI,gX,iT,lm),(rA,lp,oE),sv,pn,jw,jZ)=>
 aD (cI ii eP)
 (cN ((cV dn ii).ab (fun(tu,tv)=>
 (Bu (qu GI (gX,iT,lm),tu)).ab (fun rB=>
 (Bu (qu GI (gX,iT,lm),tv)).ab (fun sr=>
 (cM rB (ae jw)).ab (fun YA=>
 (bW jw (aw 0 YA)).ab (fun(jb,mK,vR)=>
 (cM sr (ae jw)).ab (fun k46=>
 (bW jw (aw 0 k46)).ab (fun(Mp,Ff,xy)=>
 (Ge (qu GI (gX,iT,lm),rB,sr)).ab (fun sx=>
 (cg sx 0 (ae sx)).ab (fun rE=>
 (Bx ((fZ,eF,f0),(jb,mK,vR),(Mp,Ff,xy),rE)).ab (fun((qO,rF,xz),b55)=>
 aD (dz b55)
 (some (By (By (By (((0:Int),(0:Int),(0:Int),([]:List (U×(U×U))),([]:U)),false)))))
 (cN ((bh 0 0 (ae (([]:List (U×(U×U)))))).ab (fun _=>
 aq jw (
 aq sv (
 aq pn (
 aq jw (
 aq jZ (
 aq qO (
 aq rF (
 aq xz (
 cL NN (fun((CB,CC,rG,CD,CE,ER,vL),(ES,i64,Ay,Fg,xC),(P2,L5,P3),(Of,uW,vS,HZ),(H4,P4,P5),y7,y8,sE,y9,uY,tF,uZ,sF)=>
 aD (cI vL ER)
 ((cM vL (ae sE)).ab (fun k86=>
 (bW sE (aw 0 k86)).ab (fun(zd,CU,CV)=>
 aD (jA vL CB)
 (aD (jA vL CC)
 (aq sF (
 (bh 0 1 (ae (((zd,CU,CV)::[])))).ab (fun _=>
 (lR (aw (ae sF) (ae (((zd,CU,CV)::[])))) 72).ab (fun _=>
 (bh 0 (aw (ae sF) (ae (((zd,CU,CV)::[])))) (ae (d6 sF (((zd,CU,CV)::[]))))).ab (fun _=>
 aq sE (
 aq y7 (
 aq y8 (
 aq sE (
 aq y9 (
 aq uY (
 aq tF (
 aq uZ (
 some (wt ((CB,CC,rG,CD,CE,ER,bC .i64 vL 1),(ES,i64,Ay,Fg,xC),(P2,L5,P3),(Of,uW,vS,HZ),(H4,P4,P5),y7,y8,sE,y9,uY,tF,uZ,d6 sF (((zd,CU,CV)::[])))))))))))))))))
 (aq sF (
 aq sE (
 aq y7 (
 aq y8 (
 aq sE (
 aq y9 (
 aq uY (
 aq tF (
 aq uZ (
 some (wt ((CB,CC,rG,CD,CE,ER,bC .i64 vL 1),(ES,i64,Ay,Fg,xC),(P2,L5,P3),(Of,uW,vS,HZ),(H4,P4,P5),y7,y8,sE,y9,uY,tF,uZ,sF)))))))))))))
 (aq sF (
 aq sE (
 aq y7 (
 aq y8 (
 aq sE (
 aq y9 (
 aq uY (
 aq tF (
 aq uZ (
 some (wt ((CB,CC,rG,CD,CE,ER,bC .i64 vL 1),(ES,i64,Ay,Fg,xC),(P2,L5,P3),(Of,uW,vS,HZ),(H4,P4,P5),y7,y8,sE,y9,uY,tF,uZ,sF)))))))))))))))
 ((aq sF (
 aq y7 (
 aq y8 (
 aq sE (
 aq y9 (
 aq uY (
 aq tF (
 aq uZ (
 some (wt ((CB,CC,CE,rG,CD),(ES,i64,Ay,Fg,xC),(P2,L5,P3),(Of,uW,vS,HZ),(H4,P4,P5),y7,y8,sE,y9,uY,tF,uZ,sF))))))))))).ab (fun YJ=>
 some (By YJ))))
 ((rB,sr,dn,eP,ii,aM (ae jw),(0:Int)),(fZ,eF,f0,dY,gp),(fO,mI,jv),(GI,gX,iT,lm),(rA,lp,oE),sv,pn,jw,jZ,qO,rF,xz,([]:List (U×(U×U))))))))))))))
 (fun((CF,CG,CH,Qz,X9),(Ya,Yb,i98,Fh,yX),(asB,asC,asD),(anW,E4,uR,asE),(asF,asG,XV),agu,E7,agv,Qk,Ql,E8,E9,yY)=>
 (cB Ql (ae Ql)).ab (fun Fa=>
 (cB E8 (ae E8)).ab (fun CN=>
 (cB E9 (ae E9)).ab (fun Fb=>
 aq yY (
 (bh 0 1 (ae (((Fa,CN,Fb)::[])))).ab (fun _=>
 (lR (aw (ae yY) (ae (((Fa,CN,Fb)::[])))) 72).ab (fun _=>
 (Gc (qu anW (E4,uR,asE),CF,CG)).ab (fun((af1,aCb),Od)=>
 aq agu (
 aq E7 (
 (bh 0 (aw (ae yY) (ae (((Fa,CN,Fb)::[])))) (ae (d6 yY (((Fa,CN,Fb)::[]))))).ab (fun _=>
 aq Qk (
 some (wt ((CH,Qz,X9),(Ya,Yb,i98,Fh,yX),(asB,asC,asD),(tM Od,(fH Od).1,((fH Od).2).1,((fH Od).2).2),(asF,asG,XV),agu,E7,d6 yY (((Fa,CN,Fb)::[])),Qk))))))))))))))))))))))))))
 (fun((asQ,Ia,asR),(asS,PZ,XX,au2,au3),(yQ,XY,XZ),(anX,Qp,Qq,X0),(asW,asX,asY),vP,uS,vQ,Fc)=>
 aq vP (
 aq uS (
 aq vQ (
 aq Fc (
 some (wt ((Ia,asR,bC .i64 asQ 1),(asS,PZ,XX,au2,au3),(yQ,XY,XZ),(anX,Qp,Qq,X0),(asW,asX,asY),vP,uS,vQ,Fc))))))))
 ((aq sv (
 aq pn (
 aq jw (
 aq jZ (
 some (wt ((fO,mI,jv),(rA,lp,oE),sv,pn,jw,jZ))))))).ab (fun Ib=>
 some (By Ib))))
 ((fG l5 k14 nV,aM (ae (fG l5 k14 nV)),(0:Int)),(i0,i1,i2,l3,l4),((0:Int),(0:Int),(0:Int)),(tM a8,(fH a8).1,((fH a8).2).1,((fH a8).2).2),(i9,gd,fN),([]:List (U×(U×U))),([]:U),de,dw))))))
 (fun((LW,LX,LY),(LZ,L0,L3),aCg,agC,Qu,xx)=>
 (cg Qu 0 (ae Qu)).ab (fun CO=>
 (cg xx 0 (ae xx)).ab (fun uT=>
 some ((LZ,L0,L3,CO,uT),true))))))))))))
def Gi:=Tt aP
theorem ayE {r1 r2 r3:Int} {q N:Nat} {ts:List T3} (hr:bc (r1,r2,r3)=true) (X:1<=q) (h3:q<=3) (Y:N<=5) (h:∀t∈ts,GT (r1,r2,r3) q N t) (V:ts.length<=12) (aJ:1<=ts.length): ∃t,GT (r1,r2,r3) q N t/\kT (r1,r2,r3) q N [t]=kT (r1,r2,r3) q N ts/\Gi ((r1,r2,r3,ts,[]),j3 ts.length,aM (ae (j3 ts.length)))=some ((r1,r2,r3,[t],[]),true):=by have w:∀t∈ts,zl (q:Int) t:=fun t d=>(h t d).g.1;have y:∀t∈ts,t.1.length<=12:=fun t d=>(w t d).2.1;obtain⟨a,hs⟩:=start_eq (r1:=r1) (r2:=r2) (r3:=r3) w (by omega);have dd:∃t,GT (r1,r2,r3) q N t/\kT (r1,r2,r3) q N [t]=kT (r1,r2,r3) q N ts/\∃z,Gi ((r1,r2,r3,ts,[]),j3 ts.length,aM (ae (j3 ts.length)))=some z/\z=((r1,r2,r3,[t],[]),true):=(by simp only[Gi,Tt,aq];rw[axM hr w V aJ (fun t d=>(h t d).mg) (fun t d=>(h t d).g.2.2)];simp only[bt];rw[aZ (b:=dz true) rfl,aZ (d7 (by rw[nl];omega)),aZ d7,hs];simp only[bt,Fx,zx];rw[ac8 (by omega) (fun t h'=>⟨by have:=y t h';omega,by have:=(w t h').1;have:=y t h';omega,(h t h').g.2.2⟩)];simp only[bt,Es,bR];rw[show jg 0 (aM (ae (j3 ts.length))) (ae (j3 ts.length))=some (0,ae (j3 ts.length)) from aax (zaM _)];simp only[bt];rw[show fG (j3 ts.length) 0 (ae (j3 ts.length))=j3 ts.length by unfold fG ae;rw[IS,Pd]];generalize hL:cL aP _ _=o;obtain⟨r,rfl,t,D,E,rfl⟩:∃r,o=some r/\∃t,GT (r1,r2,r3) q N t/\kT (r1,r2,r3) q N [t]=kT (r1,r2,r3) q N ts/\r=wt (((0:Int),(0:Int),(0:Int)),(r1,r2,r3),([]:List T3),([]:U),[t],([]:U)):=(by rw[<-hL];refine Fk (ts.length - 1) (fun k x=>∃t:T3,N4 (r1,r2,r3) q N ts k t/\t.1.length<=12*(k+1)/\(k≠0->t.1.length<=12)/\x=((j3 ts.length,aM (ae (j3 ts.length)),(k:Int)),(r1,r2,r3,ts,[]),((0:Int),(0:Int),(0:Int)),(a,[],lD ts k t.1,(ts.length:Int)+k),(r1,r2,r3),([]:List T3),([]:U),jI ts k t,([]:U))) _ ?s1 ?s2 ?s0 eZ;(case s0=>exact⟨([],[],[]),atj h _,by simp,by simp,rfl⟩);(case s2=>rintro x ⟨t,I,_,_,rfl⟩;have W:∃u,jI ts (ts.length - 1) t=[u]:=(by have:=adf (show ts.length - 1<ts.length by omega) t;exact List.length_eq_one_iff.1 (by omega));obtain⟨u,c⟩:=W;have Z:=I.g u (by rw[c];simp);have n:=I.s;rw[c] at n;refine⟨_,?_,u,Z,n,rfl⟩;dsimp only;rw[aZ (d7 (by rw[nl,Ft];omega)),c];try simp only[bR,bt]);case s1=>rintro k x hk ⟨t,I,hl,qF,rfl⟩;have F:k+1<ts.length:=(by omega);obtain⟨s⟩:=aa2 F t.1;have C:=adg F t s;obtain⟨T,J⟩:=atk hr X h3 Y F I;have yG:=ag0 (show k<ts.length by omega) t.1;have cP:=adf (show k<ts.length by omega) t;have R:s.i<(jI ts k t).length:=(IT.1 C.ha).1;have S:s.j<(jI ts k t).length:=(IT.1 C.hb).1;have v:∀p∈lD ts k t.1,p.2.length<=500:=agZ (fun u c=>by have:=y u c;omega) (by omega);have H:=ako (a:=a) (nx:=(ts.length:Int)+k) (by omega) v s.hi s.hj;have A:=adh (a:=a) (nx:=(ts.length:Int)+k) (by omega) v s.hi s.hj (by omega);rw[s.rl] at H A;rw[s.nxt] at A;have P:(nK (r1,r2,r3) q ts k t).1=rK ts k t.1:=(by rw[ZC];rfl);have K:(nK (r1,r2,r3) q ts k t).1.length<=12:=(J.g _ (by rw[<-OV];simp)).g.1.2.1;refine⟨_,?_,nK (r1,r2,r3) q ts k t,J,by omega,fun _=>K,rfl⟩;dsimp only;rw[bL (eD (by rw[nl,Ft];omega)),fC,Zg hk];simp only[bt,GS];rw[Q8 (by omega) s.hi s.ui];simp only[bt];rw[Q8 (by omega) s.hj s.uj];simp only[bt];rw[kI (show s.i<ae (jI ts k t) from R)];simp only[bt,Kf];rw[show bW (jI ts k t) s.i=some (aK ts k) from C.ha];simp only[bt];rw[kI (show s.j<ae (jI ts k t) from S)];simp only[bt,Kf];rw[show bW (jI ts k t) s.j=some (bK ts k t) from C.hb];simp only[bt];rw[H];simp only[bt,fP];have B:Bx ((r1,r2,r3),((aK ts k).1,(aK ts k).2.1,(aK ts k).2.2),((bK ts k t).1,(bK ts k t).2.1,(bK ts k t).2.2),rK ts k t.1)=some (nK (r1,r2,r3) q ts k t,true):=T;rw[B];simp only[bt,Es,bR];rw[aZ (b:=dz true) rfl];generalize hN:nK (r1,r2,r3) q ts k t=nt at*;obtain⟨m,M,G⟩:=nt;simp only at P K;rw[gw (fun t'=>(((s.i:Int),(s.j:Int),j3 ts.length,aM (ae (j3 ts.length)),(k:Int),aM (ae (jI ts k t)),(t':Int)),(r1,r2,r3,ts,[]),((0:Int),(0:Int),(0:Int)),(a,[],lD ts k t.1,(ts.length:Int)+k),(r1,r2,r3),([]:List T3),([]:U),jI ts k t,([]:U),m,M,G,iO s.i s.j 0 ((jI ts k t).take t'))) (jI ts k t).length ?b1 ?b2 ?b3 eZ];(case b3=>rfl);(case b2=>dsimp only;rw[aZ (d7 (by rw[nl];omega)),Pd];try simp only[bR,bt]);(case b1=>intro t' O;obtain⟨u,c⟩:∃u,(jI ts k t)[t']? =some u:=⟨_,co O⟩;have xp:=aaw (i:=s.i) (j:=s.j) c;have f:=Sc s.i s.j ((jI ts k t).take t') 0;rw[zaj] at f;obtain⟨Q,u2,L⟩:=u;dsimp only;rw[bL (eD (by rw[nl];omega)),kI (show t'<ae (jI ts k t) from O)];simp only[bt,Kf];rw[show bW (jI ts k t) t'=some (Q,u2,L) from c];simp only[bt];rw[ez,xp];by_cases e1:t'=s.i;rw[aZ (sJ (by omega)),ak (by omega),If];(try simp only[bR,bt]);(try rfl);rw[bL (zg (by omega))];by_cases e2:t'=s.j;rw[aZ (sJ (by omega)),ak (by omega),If];(try simp only[bR,bt]);(try rfl);rw[bL (zg (by omega)),ah ⟨e1,e2⟩];simp only[Hx,zZ (l:=iO s.i s.j 0 ((jI ts k t).take t')) (x:=(Q,u2,L)) (k:=72) (by omega) (by omega),Ca,bR,bt];rfl);rw[fU,C.hs];simp only[gT,bR,Hx,zZ (l:=ts.drop (k+2)) (x:=(m,M,G)) (k:=72) (by rw[Pe];omega) (by omega),bt];rw[A];simp only[bt,bR,Ca,fU,Fx,zx];rw[ez,P,show((ts.length:Int)+(k+1:Nat))=(ts.length:Int)+k+1 by omega,<-OV];rfl);rw[fU];simp only[fP,bt];exact⟨t,D,E,_,rfl,rfl⟩);obtain⟨t,D,E,z,e,rfl⟩:=dd;exact⟨t,D,E,e⟩
def Tg (NN:Nat):((Int×(Int×(Int×((List (U×(U×U)))×U))))×(List (Int×Int)))->(Option ((U×(U×U))×Bool)):=
 (fun((i0,i1,i2,l3,l4),l5)=>
 (Gi ((i0,i1,i2,l3,l4),l5,aM (ae l5))).ab (fun((i6,i7,i8,l9,cf),DX)=>
 aD (dz DX)
 (some ((([]:U),([]:U),([]:U)),false))
 (aD (bq (aM (ae l9)) (0:Int))
 ((Gv (i0,i1,i2)).ab (fun(de,dw,dj)=>
 (cB de (ae de)).ab (fun eQ=>
 (cB dw (ae dw)).ab (fun dn=>
 (cB dj (ae dj)).ab (fun dk=>
 some ((eQ,dn,dk),true))))))
 ((cV l9 (0:Int)).ab (fun(eG,fE,iu)=>
 (Gg ((i0,i1,i2,l3,l4),eG,fE,iu)).ab (fun((eU,dY,gp),UX)=>
 (cB eU (ae eU)).ab (fun gR=>
 (cB dY (ae dY)).ab (fun iv=>
 (cB gp (ae gp)).ab (fun ja=>
 some ((gR,iv,ja),UX))))))))))
def JC:=Tg aP
theorem aph {r1 r2 r3:Int} {q N:Nat} {ts:List T3} (hr:bc (r1,r2,r3)=true) (a:1<=q) (d:q<=3) (c:N<=5) (h:∀t∈ts,GT (r1,r2,r3) q N t) (g:ts.length<=12) (k:1<=ts.length): JC ((r1,r2,r3,ts,[]),j3 ts.length)=some (([],[],kT (r1,r2,r3) q N ts),true):=by obtain⟨t,j,i,e⟩:=ayE hr a d c h g k;simp only[JC,Tg];rw[e];simp only[bt];rw[aZ (b:=dz true) rfl,aZ (b:=bq (aM (ae [t])) 0) rfl,show cV [t] (0:Int)=some t from rfl];simp only[bt];have f:=ari hr a d c h g j;rw[i] at f;rw[show Gg ((r1,r2,r3,ts,[]),t.1,t.2.1,t.2.2)=some (([],[],kT (r1,r2,r3) q N ts),true) from f];simp only[bt,gT]
def TE (NN:Nat):(Int×(Int×(Int×((List (U×(U×U)))×U))))->(Option (U×Bool)):=
 (fun(i0,i1,i2,l3,l4)=>
 (JD ((i0,i1,i2,l3,l4),([]:U))).ab (fun((i5,i6,i7,l8,l9),ra)=>
 aD (dz ra)
 (some (([]:U),false))
 ((cg l8 0 (ae l8)).ab (fun eC=>
 (cg l9 0 (ae l9)).ab (fun de=>
 (JG (i5,i6,i7,eC,de)).ab (fun dw=>
 (cg l8 0 (ae l8)).ab (fun dj=>
 (cg l9 0 (ae l9)).ab (fun eQ=>
 (cg dw 0 (ae dw)).ab (fun dn=>
 (JC ((i5,i6,i7,dj,eQ),dn)).ab (fun((dk,eG,fE),UW)=>
 aD (dz UW)
 (some (([]:U),false))
 ((cB fE (ae fE)).ab (fun eU=>
 some (eU,true)))))))))))))
def Gk:=TE aP
theorem aBg {r1 r2 r3:Int} {q N:Nat} {ts:List T3} (hr:bc (r1,r2,r3)=true) (f:1<=q) (j:q<=3) (i:N<=5) (h:∀t∈ts,GT (r1,r2,r3) q N t) (c:ts.length<=12) (d:1<=ts.length): Gk (r1,r2,r3,ts,[])=some (kT (r1,r2,r3) q N ts,true):=by have e:∀t∈ts,zl (q:Int) t:=fun t a=>(h t a).g.1;simp only[Gk,TE];rw[axJ hr e c (fun t a=>(h t a).mg) (fun t a=>(h t a).g.2.2)];simp only[bt,fP];rw[aZ (b:=dz true) rfl,ayN hr e c d (fun t a=>(h t a).mg) (fun t a=>(h t a).g.2.2)];simp only[bt,fP];rw[aph hr f j i h c d];simp only[bt,gT];rw[aZ (b:=dz true) rfl]
theorem Zu {x:Int} (h:x∈[(2:Int),3,5,7,17,97,101,1000003]):kg x=true:=by simp only[OF,zak,or_false] at h;rcases h with rfl|rfl|rfl|rfl|rfl|rfl|rfl|rfl<;>decide+kernel
def Uu (NN:Nat):(U×(Int×Int))->(Option ((Int×(Int×Int))×(U×(Int×Int)))):=
 (fun(l0,i1,i2)=>
 (sV ((l0,i1,i2),(8:Int))).ab (fun(i3,l4,i5,i6)=>
 aD (bq (bC .i64 (1:Int) i3) (2:Int))
 ((cB (((2:Int)::((3:Int)::((7:Int)::((97:Int)::((1000003:Int)::[])))))) 5).ab (fun l7=>
 (zD ((l4,i5,i6),l7)).ab (fun(i8,l9,gd,fN)=>
 some ((bC .i64 (1:Int) i3,i8,(0:Int)),l9,gd,fN))))
 (cN (aD (bq (bC .i64 (1:Int) i3) (3:Int))
 (some (wt ((true,bC .i64 (1:Int) i3,bC .i64 (1:Int) i3),(l4,i5,i6),(0:Int),(0:Int),(0:Int))))
 (aD (bq (bC .i64 (1:Int) i3) (4:Int))
 (some (wt ((true,bC .i64 (1:Int) i3,bC .i64 (1:Int) i3),(l4,i5,i6),(0:Int),(0:Int),(0:Int))))
 (some (wt ((bq (bC .i64 (1:Int) i3) (5:Int),bC .i64 (1:Int) i3,bC .i64 (1:Int) i3),(l4,i5,i6),(0:Int),(0:Int),(0:Int))))))
 (fun((Om,gm,ft),(eQ,fy,eP),ii,fZ,eF)=>
 aD (Om)
 ((cB (((1:Int)::((2:Int)::((9:Int)::((40:Int)::((1000000:Int)::[])))))) 5).ab (fun eU=>
 (zD ((eQ,fy,eP),eU)).ab (fun(kO,gp,fO,mI)=>
 some ((ft,kO,(0:Int)),gp,fO,mI))))
 (aD (bq gm (6:Int))
 ((cB (((1:Int)::((3:Int)::((5:Int)::((20:Int)::[]))))) 4).ab (fun iv=>
 (zD ((eQ,fy,eP),iv)).ab (fun(iS,gX,qK,lm)=>
 some ((ft,(0:Int),iS),gX,qK,lm))))
 (aD (bq gm (7:Int))
 ((cB (((2:Int)::((5:Int)::((101:Int)::[])))) 3).ab (fun kE=>
 (zD ((eQ,fy,eP),kE)).ab (fun(lp,pj,kf,lA)=>
 (sV ((pj,kf,lA),(4:Int))).ab (fun(sq,jZ,tu,tv)=>
 some ((ft,lp,bC .i64 (1:Int) sq),jZ,tu,tv)))))
 (aD (bq gm (8:Int))
 ((cB (((3:Int)::((17:Int)::((97:Int)::((1000003:Int)::[]))))) 4).ab (fun qN=>
 (zD ((eQ,fy,eP),qN)).ab (fun(sr,p9,Av,Aw)=>
 some ((ft,sr,(0:Int)),p9,Av,Aw))))
 (some ((ft,(0:Int),(0:Int)),eQ,fy,eP)))))))))
def JW:=Uu aP
theorem fB {α β:Type} (x:α) (f:α->Option β):(some x).ab f=f x:=by simp[Option.ab]
theorem azu (c:Cu) (h:ou c):∃r B,JW c=some (r,B)/\bc r=true/\ou B:=by obtain⟨l,i,k⟩:=c;obtain⟨x,⟨l1,i1,j⟩,e,hx,_,d⟩:=yd (l,i,k) 8 h (by omega);have U:=MT (l1,i1,j) [(2:Int),3,7,97,1000003] d (by simp) (by simp);have G:=MT (l1,i1,j) [(1:Int),2,9,40,1000000] d (by simp) (by simp);have t:=MT (l1,i1,j) [(1:Int),3,5,20] d (by simp) (by simp);have u:=MT (l1,i1,j) [(2:Int),5,101] d (by simp) (by simp);have p:=MT (l1,i1,j) [(3:Int),17,97,1000003] d (by simp) (by simp);obtain⟨y,⟨a1,b1,c1⟩,p1,m1,F⟩:=U;obtain⟨g,⟨a2,b2,c2⟩,s,m2,o⟩:=G;obtain⟨n,⟨a3,b3,c3⟩,J,T,o3⟩:=t;obtain⟨v,⟨D,b4,c4⟩,p4,R,Z⟩:=u;obtain⟨m,⟨a5,b5,c5⟩,E,w,o5⟩:=p;obtain⟨z,⟨a6,b6,c6⟩,N,hz,_,Q⟩:=yd (D,b4,c4) 4 Z (by omega);have t1:cB [(2:Int),3,7,97,1000003] 5=some [(2:Int),3,7,97,1000003]:=rfl;have t2:cB [(1:Int),2,9,40,1000000] 5=some [(1:Int),2,9,40,1000000]:=rfl;have V:cB [(1:Int),3,5,20] 4=some [(1:Int),3,5,20]:=rfl;have P:cB [(2:Int),5,101] 3=some [(2:Int),5,101]:=rfl;have M:cB [(3:Int),17,97,1000003] 4=some [(3:Int),17,97,1000003]:=rfl;have H:kg y=true:=Zu (by simp at m1⊢;omega);have W:kg v=true:=Zu (by simp at R⊢;omega);have I:kg m=true:=Zu (by simp at w⊢;omega);have S:m≠2:=(by simp at w;omega);have f:1<=g/\g<=1000000:=(by simp at m2;omega);have A:1<=n/\n<=20:=(by simp at T;omega);simp only[JW,Uu];rw[e];simp only[fB,t1,p1,t2,V,P,M];rw[ez (a:=1) (b:=x) (by omega) (by omega)];have q:x=0\/x=1\/x=2\/x=3\/x=4\/x=5\/x=6\/x=7:=(by omega);have L:bc (1,0,0)=true:=(by decide);have Y:bc (2,y,0)=true:=(by simp[bc,H]);have K:bc (3,g,0)=true:=(by simp[bc,f.1,f.2]);have R4:bc (4,g,0)=true:=(by simp[bc,f.1,f.2]);have C:bc (5,g,0)=true:=(by simp[bc,f.1,f.2]);have O:bc (6,0,n)=true:=(by simp[bc,A.1,A.2]);have R7:bc (7,v,1+z)=true:=(by have:1<=1+z/\1+z<=6:=(by omega);simp[bc,W,this.1,this.2]);have X:bc (8,m,0)=true:=(by simp[bc,I,S]);rcases q with rfl|rfl|rfl|rfl|rfl|rfl|rfl|rfl;rw[aZ (b:=bq (1+0) 2) rfl,aZ (b:=bq (1+0) 3) rfl,aZ (b:=bq (1+0) 4) rfl,fU];dsimp only;rw[aZ (b:=bq (1+0) 5) rfl,aZ (b:=bq (1+0) 6) rfl,aZ (b:=bq (1+0) 7) rfl,aZ (b:=bq (1+0) 8) rfl];exact⟨_,_,rfl,L,d⟩;rw[bL (b:=bq (1+1) 2) rfl];exact⟨_,_,rfl,Y,F⟩;rw[aZ (b:=bq (1+2) 2) rfl,bL (b:=bq (1+2) 3) rfl,fU];dsimp only;rw[mX,s];simp only[fB];exact⟨_,_,rfl,K,o⟩;rw[aZ (b:=bq (1+3) 2) rfl,aZ (b:=bq (1+3) 3) rfl,bL (b:=bq (1+3) 4) rfl,fU];dsimp only;rw[mX,s];simp only[fB];exact⟨_,_,rfl,R4,o⟩;rw[aZ (b:=bq (1+4) 2) rfl,aZ (b:=bq (1+4) 3) rfl,aZ (b:=bq (1+4) 4) rfl,fU];dsimp only;rw[bL (b:=bq (1+4) 5) rfl,s];simp only[fB];exact⟨_,_,rfl,C,o⟩;rw[aZ (b:=bq (1+5) 2) rfl,aZ (b:=bq (1+5) 3) rfl,aZ (b:=bq (1+5) 4) rfl,fU];dsimp only;rw[aZ (b:=bq (1+5) 5) rfl,bL (b:=bq (1+5) 6) rfl,J];simp only[fB];exact⟨_,_,rfl,O,o3⟩;rw[aZ (b:=bq (1+6) 2) rfl,aZ (b:=bq (1+6) 3) rfl,aZ (b:=bq (1+6) 4) rfl,fU];dsimp only;rw[aZ (b:=bq (1+6) 5) rfl,aZ (b:=bq (1+6) 6) rfl,bL (b:=bq (1+6) 7) rfl,p4];simp only[fB];rw[N];simp only[fB];rw[ez (a:=1) (b:=z) (by omega) (by omega)];exact⟨_,_,rfl,R7,Q⟩;rw[aZ (b:=bq (1+7) 2) rfl,aZ (b:=bq (1+7) 3) rfl,aZ (b:=bq (1+7) 4) rfl,fU];dsimp only;rw[aZ (b:=bq (1+7) 5) rfl,aZ (b:=bq (1+7) 6) rfl,aZ (b:=bq (1+7) 7) rfl,bL (b:=bq (1+7) 8) rfl,E];simp only[fB];exact⟨_,_,rfl,X,o5⟩
def Uk (NN:Nat):(U×Int)->(Option (Int×(Int×Int))):=
 (fun(l0,i1)=>
 (BJ (l0,i1)).ab (fun(l2,i3,i4)=>
 (JW (l2,i3,i4)).ab (fun((i5,i6,i7),l8,i9,gd)=>
 some (i5,i6,i7))))
def JR:=Uk aP
theorem anO (l:U) (n:Int) (h:l.length<=1048576) (hn:0<=n):∃r,JR (l,n)=some r/\bc r=true:=by obtain⟨⟨l',i',k'⟩,e,d⟩:=Ok l n h hn;obtain⟨⟨r1,r2,r3⟩,⟨a,b,c⟩,f,hr,_⟩:=azu _ d;simp only[JR,Uk];rw[e];simp only[fB];rw[f];exact⟨_,rfl,hr⟩
def Ur (NN:Nat):((U×(Int×Int))×(Int×(Int×Int)))->(Option (U×(U×(Int×Int)))):=
 (fun((l0,i1,i2),i3,i4,i5)=>
 (sV ((l0,i1,i2),(6:Int))).ab (fun(i6,l7,i8,i9)=>
 aD (bq i6 (0:Int))
 ((JX (i3,i4,i5)).ab (fun cf=>
 (cg cf 0 (ae cf)).ab (fun eC=>
 some (eC,l7,i8,i9))))
 (aD (bq i6 (1:Int))
 ((Gx (i3,i4,i5)).ab (fun de=>
 (cg de 0 (ae de)).ab (fun dw=>
 some (dw,l7,i8,i9))))
 ((BH (i3,i4,i5)).ab (fun ft=>
 (ki ft ft 8).ab (fun nV=>
 cN ((bh 0 nV (ae (cj nV (0:Int)))).ab (fun _=>
 cL NN (fun((fy,eP),(eG,fZ,eF),(f0,kO,iq),h9)=>
 aD (cI eP fy)
 ((BG (f0,kO,iq)).ab (fun mI=>
 (sV ((eG,fZ,eF),iw (256:Int) (bC .i64 mI 1))).ab (fun(jv,ja,pW,qK)=>
 (cM eP (ae h9)).ab (fun CL=>
 (bW h9 (aw 0 CL)).ab (fun rA=>
 (JU ((ja,pW,qK),(12:Int))).ab (fun(UY,pj,kf,lA)=>
 aD (UY)
 ((BG (f0,kO,iq)).ab (fun sq=>
 (cM eP (ae h9)).ab (fun xw=>
 (bW (be h9 (aw 0 CL) jv) (aw 0 xw)).ab (fun tu=>
 (bh 0 (ae h9) (ae (be (be h9 (aw 0 CL) jv) (aw 0 xw) sq))).ab (fun _=>
 some (wt ((fy,bC .i64 eP 1),(pj,kf,lA),(f0,kO,iq),be (be h9 (aw 0 CL) jv) (aw 0 xw) sq)))))))
 ((bh 0 (ae h9) (ae (be h9 (aw 0 CL) jv))).ab (fun _=>
 some (wt ((fy,bC .i64 eP 1),(pj,kf,lA),(f0,kO,iq),be h9 (aw 0 CL) jv))))))))))
 ((aq h9 (
 some (wt ((eG,fZ,eF),h9)))).ab (fun tD=>
 some (By tD))))
 ((aM nV,(0:Int)),(l7,i8,i9),(i3,i4,i5),cj nV (0:Int))))
 (fun((qN,sr,xt),jb)=>
 (cg jb 0 (ae jb)).ab (fun mK=>
 some (mK,qN,sr,xt)))))))))
def JV:=Ur aP
theorem apT (c:Cu) (r:Rg) (h:ou c) (hr:bc r=true):∃x I,JV (c,r)=some (x,I)/\bm r x=true/\ou I:=by obtain⟨l,i,k⟩:=c;obtain⟨r1,r2,r3⟩:=r;obtain⟨x,⟨l1,i1,k1⟩,e,hx,_,p⟩:=yd (l,i,k) 6 h (by omega);have hw:=ku hr;have ht:=zz hr;have ht1:=abm hr;simp only[JV,Ur,aq];rw[e];simp only[fB];by_cases G:x=0;rw[bL (tf G),show JX (r1,r2,r3)=some (d9 (r1,r2,r3)) from ah hr];simp only[fB,fP];exact⟨_,_,rfl,rh hr,p⟩;rw[aZ (te G)];by_cases H:x=1;rw[bL (tf H),show Gx (r1,r2,r3)=some (cH (r1,r2,r3)) from ah hr];simp only[fB,fP];exact⟨_,_,rfl,kA hr,p⟩;rw[aZ (te H),show BH (r1,r2,r3)=some (kt (r1,r2,r3)) from rfl];simp only[fB];rw[MC hr];simp only[fB];have E:(cj (az (r1,r2,r3)) (0:Int)).length=az (r1,r2,r3):=(by unfold cj;rw[List.length_replicate]);rw[show bh 0 (az (r1,r2,r3)) (ae (cj (az (r1,r2,r3)) (0:Int)))=some () from lU E.symm];simp only[fB];generalize hL:cL aP _ _=o;obtain⟨z,rfl,⟨l2,i2,g⟩,y,rfl,d,hy⟩:∃z,o=some z/\∃(a:Cu) (y:U),z=wt (a,y)/\ou a/\bm (r1,r2,r3) y=true:=(by rw[<-hL];refine Fk (az (r1,r2,r3)) (fun t s=>∃(a:Cu) (y:U),s=((aM (az (r1,r2,r3)),(t:Int)),a,(r1,r2,r3),y)/\ou a/\bm (r1,r2,r3) y=true) _ ?s1 ?s2 ?s0 eZ;(case s0=>refine⟨_,_,rfl,p,?_⟩;simp only[bm,BY,decide_eq_true_eq,zaC];refine⟨E,fun v B=>?_⟩;have:=List.eq_of_mem_replicate B;subst this;simp only[pY,decide_eq_true_eq];omega);(case s2=>rintro s ⟨⟨l2,i2,g⟩,y,rfl,d,hy⟩;refine⟨_,?_,_,_,rfl,d,hy⟩;dsimp only;rw[aZ (d7 (by show(az (r1,r2,r3):Int)<=_;omega))];try simp only[bR,fB]);case s1=>rintro t s M ⟨⟨l2,i2,g⟩,y,rfl,d,hy⟩;have F:=fJ hy;have n:1<=iw 256 (cr (r1,r2,r3)+1):=(by rw[QI];omega);obtain⟨v,⟨O,P,N⟩,K,B,_,A⟩:=yd (l2,i2,g) (iw 256 (cr (r1,r2,r3)+1)) d n;obtain⟨b,⟨l4,i4,k4⟩,Q,J⟩:=axz (O,P,N) 12 A (by omega);rw[QI] at B;have C:∀(z:U) (w:Int),bm (r1,r2,r3) z=true->0<=w/\w<=cr (r1,r2,r3)->bm (r1,r2,r3) (be z t w)=true:=(by intro z w j L;simp only[bm,BY,decide_eq_true_eq,zaC] at j⊢;refine⟨by unfold be;rw[List.length_set];exact j.1,fun u R=>?_⟩;rcases List.mem_or_eq_of_mem_set R with h'|h';exact j.2 u h';subst h';simp only[pY,decide_eq_true_eq];exact L);have f:=C y v hy (by omega);have D:=C (be y t v) (cr (r1,r2,r3)) f (by omega);have m:∃w,bW y t=some w:=⟨_,co (by omega)⟩;have q:∃w,bW (be y t v) t=some w:=⟨_,co (by rw[fJ f];exact M)⟩;obtain⟨w1,m⟩:=m;obtain⟨w2,q⟩:=q;dsimp only;rw[bL (eD (by show(t:Int)<(az (r1,r2,r3):Int);omega)),show BG (r1,r2,r3)=some (cr (r1,r2,r3)) from ah hr];simp only[fB];rw[ez,K];simp only[fB];rw[kI (show t<ae y by show t<y.length;omega)];simp only[fB,Kf];rw[m];simp only[fB];rw[Q];simp only[fB];cases b with|true=>rw[mX];simp only[q,fB];rw[lU (show ae y=ae (be (be y t v) t (cr (r1,r2,r3))) by show y.length=zaf _;rw[fJ D,F])];simp only[fB];rw[ez];exact⟨_,rfl,_,_,rfl,J,D⟩|false=>rw[mW,lU (show ae y=ae (be y t v) by show y.length=zaf _;rw[fJ f,F])];simp only[fB];rw[ez];exact⟨_,rfl,_,_,rfl,J,f⟩);rw[fU];simp only[fP,fB];exact⟨_,_,rfl,hy,d⟩
def Uh (NN:Nat):(U×(Int×(Int×(Int×Int))))->(Option U):=
 (fun(l0,i1,i2,i3,i4)=>
 (BJ (l0,i1)).ab (fun(l5,i6,i7)=>
 (JV ((l5,i6,i7),i2,i3,i4)).ab (fun(l8,l9,gd,fN)=>
 some l8)))
def JO:=Uh aP
theorem anM (l:U) (n:Int) (r:Rg) (h:l.length<=1048576) (hn:0<=n) (hr:bc r=true):∃x,JO (l,n,r)=some x/\bm r x=true:=by obtain⟨⟨g,d,k'⟩,e,f⟩:=Ok l n h hn;obtain⟨r1,r2,r3⟩:=r;obtain⟨x,⟨a,b,c⟩,i,hx,_⟩:=apT (g,d,k') (r1,r2,r3) f hr;simp only[JO,Uh];rw[e];simp only[fB];rw[i];exact⟨_,rfl,hx⟩
def TF (NN:Nat):(Int×(Int×Int))->(Option U):=
 (fun(i0,i1,i2)=>
 (qW (i0,i1,i2)).ab (fun b3=>
 aD (dz b3)
 (some (([]:U)))
 ((ve (i0,i1,i2)).ab (fun l4=>
 (cB l4 (ae l4)).ab (fun l5=>
 some l5)))))
def JI:=TF aP
theorem aBV {r:Rg} (hr:bc r=true):JI r=some (d9 r):=by obtain⟨r1,r2,r3⟩:=r;simp only[JI,TF];rw[show qW (r1,r2,r3)=some true from congrArg some hr];simp only[fB];rw[aZ (b:=dz true) rfl,show ve (r1,r2,r3)=some (d9 (r1,r2,r3)) from ah hr];simp only[fB,gT]
def Ug (NN:Nat):(Int×Int)->(Option Int):=
 (fun(i0,i1)=>
 cN (cL NN (fun(i2,i3,i4)=>
 aD (cI (0:Int) i3)
 (some (wt (i2,jE .i64 i3 1,gY .i64 i4 i2)))
 (some (By (wt i4))))
 (i0,i1,(1:Int)))
 (fun i5=>
 some i5))
def JN:=Ug aP
theorem ayW {q:Nat} {n:Nat} (d:q<=3) (hn:n<=5):JN ((q:Int),(n:Int))=some ((q:Int)^n):=by simp only[JN,Ug];have hb:∀k,k<=5->q^k<=243:=fun k c=>(by have a:=zas d k;have b:=zaa (show 0<3 by omega) c;omega);rw[gw (fun k=>((q:Int),((n - k:Nat):Int),((q^k:Nat):Int))) n ?a1 ?a2 ?a3 eZ];(case a3=>rfl);(case a2=>dsimp only;rw[aZ d7]);(case a1=>intro k c;have h1:=hb k (by omega);have h2:=hb (k+1) (by omega);have e:((q^k:Nat):Int)*(q:Int)=((q^(k+1):Nat):Int):=(by rw[zaK];push_cast;rfl);dsimp only;rw[bL eD,n8,tK (by rw[e];omega) (by rw[e];omega),e,show((n - k:Nat):Int) - 1=((n - (k+1):Nat):Int) by omega]);rw[fU];show some ((q^n:Nat):Int)=_;rw[zaE]
def Uf (NN:Nat):(U×U)->(Option Bool):=
 (fun(l0,l1)=>
 cN (cL NN (fun(l2,l3,l4,i5,i6)=>
 aD (cI i6 i5)
 ((cV l4 i6).ab (fun i7=>
 aD (ic (aM (ae l3)) i6)
 (some (By (By false)))
 ((cV l3 i6).ab (fun i8=>
 aD (jA i8 i7)
 (some (By (By false)))
 (some (wt (l2,l3,l4,i5,bC .i64 i6 1)))))))
 (some (By (wt (l2,l3)))))
 (l0,l1,l0,aM (ae l0),(0:Int)))
 (fun(l9,cf)=>
 some (bq (aM (ae l9)) (aM (ae cf)))))
def DM:=Uf aP
theorem Yk (x:U) (h:x.length<=1048576):DM (x,x)=some true:=by simp only[DM,Uf];rw[gw (fun k=>(x,x,x,aM (ae x),(k:Int))) x.length ?a1 ?a2 ?a3 eZ];(case a3=>rfl);(case a2=>dsimp only;rw[aZ (d7 (by rw[nl];omega))]);(case a1=>intro k a;obtain⟨v,b⟩:∃v,x[k]? =some v:=⟨_,co a⟩;dsimp only;rw[bL (eD (by rw[nl];omega)),fC,b];simp only[fB];rw[aZ (Ik (by rw[nl];omega)),aZ (sJ rfl),ez];rfl);rw[fU];exact congrArg some (tf rfl)
theorem ab5 {r:Rg} {x y:U} (hr:bc r=true) (hx:bm r x=true) (hy:bm r y=true):mU (aM 0,aM (aw 0 (ae x)),r,x,y)=some (cA r x y):=by
 have a:=fJ hx;have lz:=fJ (tc hr hx hy);have hs:fG x 0 (az r)=x:=by unfold fG;rw[IS,AT (by omega)]
 have hp:iC x 0 (cA r x y)=cA r x y:=by unfold iC;rw[List.take_zero,List.nil_append,List.drop_eq_nil_of_le (by omega),If]
 have ha:=UK (lo:=0) hr (xs:=x) (y:=y) (by omega) (by rw[hs];exact hx) hy;rw[hs,hp] at ha;have hl:ae x=az r:=a;rw[hl];exact ha
theorem adI {r:Rg} {x:U} (hr:bc r=true) (hx:bm r x=true):∃v,bW x 0=some v:=⟨_,co (by rw[fJ hx];exact(ku hr).2.1)⟩
def Tf (NN:Nat):((Int×(Int×Int))×((Int×(List (Int×Int)))×(Int×U)))->(Option U):=
 (fun((i0,i1,i2),(i3,l4),i5,l6)=>
 (x5 ((i0,i1,i2),(i3,l4),i5,l6)).ab (fun b7=>
 aD (dz b7)
 (some (([]:U)))
 ((ve (i0,i1,i2)).ab (fun l8=>
 cN (aq l8 (
 cL NN (fun((i9,cf,fN),(e9,gm,ft),(jO,dn),dk)=>
 (Bc .i64 (1:Int) (aM (ae dn))).ab (fun ii=>
 aD (cI fN ii)
 ((xV ((e9,gm,ft),i9)).ab (fun fE=>
 (Gt ((jO,dn),fN)).ab (fun eF=>
 (cg fE 0 (ae fE)).ab (fun eU=>
 (x4 ((e9,gm,ft),eU,eF)).ab (fun dY=>
 (Gl fN).ab (fun iq=>
 (x4 ((e9,gm,ft),cf,iq)).ab (fun h9=>
 (cg dY 0 (ae dY)).ab (fun gR=>
 (cg h9 0 (ae h9)).ab (fun iv=>
 (x3 ((e9,gm,ft),gR,iv)).ab (fun ja=>
 (bW dk 0).ab (fun pW=>
 (cg dk 0 (ae dk)).ab (fun iT=>
 aq dk (
 (cg ja 0 (ae ja)).ab (fun kQ=>
 (mU (aM 0,aM (aw 0 (ae dk)),(e9,gm,ft),dk,kQ)).ab (fun kE=>
 (bh 0 (ae dk) (ae kE)).ab (fun _=>
 some (wt ((i9,cf,bC .i64 fN 1),(e9,gm,ft),(jO,dn),kE))))))))))))))))))
 ((aq dk (
 some (wt dk))).ab (fun uU=>
 some (By uU)))))
 ((i5,l6,(0:Int)),(i0,i1,i2),(i3,l4),l8)))
 (fun pj=>
 (cB pj (ae pj)).ab (fun sv=>
 some sv))))))
def Bv:=Tf aP
theorem acX {k p n a q:Int} {es:List (Int×Int)} {x:U} (hl:x.length<=9223372036854775806) (i:kG (k,p,n) (a,es) q x=true):Bv ((k,p,n),(a,es),q,x)=some (vl (k,p,n) (a,es) q x):=by simp only[Bv,Tf,vl,aq];rw[show x5 ((k,p,n),(a,es),q,x)=some (kG (k,p,n) (a,es) q x) from ah hl,i];simp only[fB];obtain⟨hr,c,hx,l,hq4⟩:=Jc i;simp only at c;obtain⟨hn,m7,_⟩:=pT c;rw[aZ (b:=dz true) rfl,ah trivial,show ve (k,p,n)=some (d9 (k,p,n)) from ah hr];simp only[fB,bR];have hp:2^es.length<=2^10:=zaa (by omega) (by omega);rw[gw (fun s=>((q,x,(s:Int)),(k,p,n),(a,es),D7 (k,p,n) (a,es) q x s)) (r:=wt (D7 (k,p,n) (a,es) q x (2^es.length))) (2^es.length) ?a1 ?a2 ?a3 eZ];rw[fU,gT];simp only[fB];(case a3=>rfl);(case a2=>simp only;rw[nl,aap (by omega)];simp only[fB];rw[aZ (d7 (Int.le_refl _))]);case a1=>intro s hs;simp only;have d:=adH (g:=(a,es)) hr hx l s;have jU:=ayO s;have hb:=ayF (s:=(s:Int)) c;have o:OR (k,p,n) q=il (k,p,n) q:=ah ⟨hr,by omega⟩;have f:=uv (m:=q) hr (by omega);rw[nl,aap (by omega)];simp only[fB];rw[bL eD,show xV ((k,p,n),q)=some (OR (k,p,n) q) from rfl,o];simp only[fB];rw[show Gt ((a,es),(s:Int))=some (nE (jo a es s)) from ah ⟨c,aAk hs⟩,VT c];simp only[fB,fP];rw[show x4 ((k,p,n),il (k,p,n) q,(parts a es (s:Int)).1)=some (iB (k,p,n) (il (k,p,n) q) (sa (a,es) s)) from ah ⟨⟨hr,f⟩,hb.1,by omega⟩];simp only[fB];rw[show Gl (s:Int)=some (ik s:Int) from ah ⟨by omega,by omega⟩];simp only[fB];rw[show x4 ((k,p,n),x,(ik s:Int))=some (iB (k,p,n) x (ik s)) from ah ⟨⟨hr,hx⟩,by omega,by omega⟩];simp only[fB,fP];have j:=qz hr f (sa (a,es) s);have h:=qz hr hx (ik s);rw[show x3 ((k,p,n),iB (k,p,n) (il (k,p,n) q) (sa (a,es) s),iB (k,p,n) x (ik s))=some (dg (k,p,n) (iB (k,p,n) (il (k,p,n) q) (sa (a,es) s)) (iB (k,p,n) x (ik s))) from ah ⟨hr,j,h⟩];have e:=td hr j h;obtain⟨v,t⟩:=adI hr d;simp only[fB,t,bR,fP];rw[ab5 hr d e];simp only[fB];rw[avl d (tc hr d e)];simp only[fB];rw[ez];rfl
def wJ (k:Nat):(Int×Int×Int)×(Int×List (Int×Int))×Int×U->Option U:=fun((r,g,q,x):(Int×Int×Int)×(Int×List (Int×Int))×Int×U)=>if 1<=k/\x.length<=9223372036854775806/\g.2.length<=1048576/\(kG r g q x=true->g.2.length<k) then some (rR r g q x) else none
def S8:(Int×Int×Int)×(Int×List (Int×Int))×Int×U->Option U:=wJ 12
def Tx (k NN:Nat):((Int×(Int×Int))×((Int×(List (Int×Int)))×(Int×U)))->(Option U):=
 (fun((i0,i1,i2),(i3,l4),i5,l6)=>
 (x5 ((i0,i1,i2),(i3,l4),i5,l6)).ab (fun b7=>
 aD (dz b7)
 (some (([]:U)))
 (aD (bq (aM (ae l4)) (0:Int))
 ((xV ((i0,i1,i2),i5)).ab (fun l8=>
 (cg l8 0 (ae l8)).ab (fun l9=>
 (x4 ((i0,i1,i2),l9,i3)).ab (fun cf=>
 (cB cf (ae cf)).ab (fun eC=>
 some eC)))))
 ((Bz ((i3,l4),jE .i64 (aM (ae l4)) (1:Int))).ab (fun((e9,dw),b14)=>
 (Gf ((i3,l4),jE .i64 (aM (ae l4)) (1:Int))).ab (fun((jO,dn),zL)=>
 (cg dw 0 (ae dw)).ab (fun eG=>
 (wJ k ((i0,i1,i2),(e9,eG),i5,l6)).ab (fun fE=>
 (cg dn 0 (ae dn)).ab (fun iu=>
 (wJ k ((i0,i1,i2),(jO,iu),i5,l6)).ab (fun eU=>
 (cg eU 0 (ae eU)).ab (fun dY=>
 (x3 ((i0,i1,i2),l6,dY)).ab (fun gp=>
 (bW fE 0).ab (fun fO=>
 (cg fE 0 (ae fE)).ab (fun gR=>
 aq fE (
 (cg gp 0 (ae gp)).ab (fun iv=>
 (mU (aM 0,aM (aw 0 (ae fE)),(i0,i1,i2),fE,iv)).ab (fun ja=>
 (cB ja (ae fE)).ab (fun gX=>
 some gX))))))))))))))))))
theorem aqL (k:Nat) (x:(Int×Int×Int)×(Int×List (Int×Int))×Int×U) (z:U) (h:wJ (k+1) x=some z):Tx k aP x=some z:=by obtain⟨⟨d,p,n⟩,⟨a,es⟩,q,x⟩:=x;simp only[wJ] at h;split at h;rename_i hl;obtain⟨_,hl,l,i⟩:=hl;rw[<-h];simp only[Tx,aq];rw[show x5 ((d,p,n),(a,es),q,x)=some (kG (d,p,n) (a,es) q x) from ah hl];simp only[fB];(cases hc:kG (d,p,n) (a,es) q x with|false=>rw[bL (b:=dz false) rfl,rR,ak (by rw[hc];simp)]|true=>have i:=i hc;obtain⟨hr,f,hx,hq,hq4⟩:=Jc hc;simp only at f;obtain⟨hn,m7,_⟩:=pT f;rw[aZ (b:=dz true) rfl,yi,nl];by_cases e:es.length=0;rw[ah (by omega),aAy hc e,show xV ((d,p,n),q)=some (il (d,p,n) q) from congrArg some (ah ⟨hr,by omega⟩)];simp only[fB,fP];rw[show x4 ((d,p,n),il (d,p,n) q,a)=some (iB (d,p,n) (il (d,p,n) q) a.toNat) from ah ⟨⟨hr,uv hr (by omega)⟩,hn.1,by omega⟩];simp only[fB,gT];rw[ak (by omega),n8,show(es.length:Int) - 1=((es.length - 1:Nat):Int) by omega];rw[show Bz ((a,es),((es.length - 1:Nat):Int))=some (rN (a,es),true) from(ah l).trans (congrArg some (apw (g:=(a,es)) f e))];simp only[fB];rw[show Gf ((a,es),((es.length - 1:Nat):Int))=some (oY (a,es),true) from(ah (c:=es.length<=1048576) l).trans (congrArg some (apg (g:=(a,es)) f e))];simp only[fB,fP];obtain⟨s,t⟩:=M9 (g:=(a,es)) f e;obtain⟨r,u⟩:=Ky (g:=(a,es)) f e;have ha:=Sl hc s;have hb:=Sl hc r;simp only at t u i;rw[show wJ k ((d,p,n),((rN (a,es)).1,(rN (a,es)).2),q,x)=some (rR (d,p,n) (rN (a,es)) q x) from ah ⟨by omega,hl,by simp only;omega,fun _=>by simp only;omega⟩];simp only[fB];rw[show wJ k ((d,p,n),((oY (a,es)).1,(oY (a,es)).2),q,x)=some (rR (d,p,n) (oY (a,es)) q x) from ah ⟨by omega,hl,by simp only;omega,fun _=>by simp only;omega⟩];have j:=O4 ha;have m:=O4 hb;have o:=td hr hx m;simp only[fB,fP];rw[show x3 ((d,p,n),x,rR (d,p,n) (oY (a,es)) q x)=some (dg (d,p,n) x (rR (d,p,n) (oY (a,es)) q x)) from ah ⟨hr,hx,m⟩];obtain⟨v,w⟩:=adI hr j;simp only[fB,w,fP,bR];rw[ab5 hr j o,<-aAz hc e];simp only[fB];rw[NJ (by rw[fJ (O4 hc)];exact(fJ j).symm)];simp only[fB]);cases h
theorem arq (x:(Int×Int×Int)×(Int×List (Int×Int))×Int×U) (z:U):¬wJ 0 x=some z:=by intro h;simp only[wJ] at h;rw[ak (fun a=>by have:=a.1;omega)] at h;cases h
section
variable {r:Rg} {q:Nat} {x:U}
theorem axr (a b:Int) (ha:0<=a):jC [(q:Int),(q:Int)] [a,b]=a.toNat*q+b.toNat:=by have:=aiZ (D1:=[(q:Int)]) (D2:=[(q:Int)]) (i1:=[a]) (i2:=[b]) rfl;rw[MK,MK,Fy] at this;exact this
theorem Ve {g:Nat->U} (a:∀i,bm r (g i)=true) {n i:Nat} (hi:i<n):nC r (dR g n) i=g i:=Sd (fun j _=>fJ (a j)) hi
theorem aBx (hr:bc r=true) (hx:bm r x=true) (l:1<=q) (e:Int×Int) {τ:Int->Nat} (b:∀u,τ u<q):vT r q (ld r q (cA r (cH r) x) e) τ=wE r x e τ:=by have hs:=tc hr (kA hr) hx;unfold ld wE;have hl:=OP l τ e.1;have f:kJ q τ e.1=(τ e.1:Int):=OO (b _);have n:kJ q τ e.2=(τ e.2:Int):=OO (b _);have d:=b e.1;have g:=b e.2;by_cases h:e.1=e.2;rw[ah h,ah (by rw[h])];show nC r (dR _ q) (jC [(q:Int)] [kJ q τ e.1])=_;rw[MK,f,AI,Ve (fun _=>hs) d];rw[ak h];show nC r (dR _ (q*q)) (jC [(q:Int),(q:Int)] [kJ q τ e.1,kJ q τ e.2])=_;have k:τ e.1*q+τ e.2<q*q:=(by have:=Nat.mul_le_mul_right q (show τ e.1+1<=q by omega);rw[Nat.add_mul,zaL] at this;omega);rw[axr _ _ hl.1,f,n,AI,AI,Ve (fun i=>KH hr hs q i) k];have j:(τ e.1*q+τ e.2)/q=τ e.1:=(by rw[zax,Nat.mul_add_div (by omega),Nat.div_eq_of_lt g,Nat.add_zero]);have m:(τ e.1*q+τ e.2)%q=τ e.2:=(by rw[zax,Nat.mul_add_mod,Nat.mod_eq_of_lt g]);unfold oZ;rw[j,m];by_cases a:τ e.1=τ e.2;rw[ah ⟨a,d⟩,ah a];rw[ak fun c=>a c.1,ak a]
theorem aBy (hr:bc r=true) (a:1<=q) (i:Int) (τ:Int->Nat):vT r q (Ip r q i) τ=cH r:=by have hl:=OP a τ i;show nC r (dR _ q) (jC [(q:Int)] [kJ q τ i])=_;rw[MK,Ve (fun _=>kA hr) (by omega)]
theorem Mv {es:List (Int×Int)} {t:T3}:∀{n:Nat},t∈qa r q es n↔∃i:Nat,i<n/\tH es i=true/\t=Ip r q i
 |0=>⟨fun h=>(zak h).elim,fun⟨i,h,_⟩=>by omega⟩
 |n+1=>by have d:=Mv (es:=es) (t:=t) (n:=n);unfold qa;by_cases hl:tH es n=true;rw[ah hl,AN,d,GB];constructor;rintro(⟨i,a,b,c⟩|h);exact⟨i,by omega,b,c⟩;exact⟨n,by omega,hl,h⟩;rintro⟨i,a,b,c⟩;by_cases e:i=n;exact .inr (e▸c);exact .inl ⟨i,by omega,b,c⟩;rw[ak hl,d];constructor;rintro⟨i,a,b,c⟩;exact⟨i,by omega,b,c⟩;rintro⟨i,a,b,c⟩;refine⟨i,?_,b,c⟩;have:i≠n:=(by rintro rfl;exact hl b);omega
theorem ajP (hr:bc r=true) {τ:Int->Nat}:∀{us:List T3},(∀t∈us,vT r q t τ=cH r)->tL r q us τ=cH r
 |[],_=>rfl
 |t::us,h=>by show dg r (vT r q t τ) (tL r q us τ)=cH r;rw[h t (by simp),ajP hr fun u a=>h u (by simp[a]),mul_one hr (kA hr)]
theorem ajQ (hr:bc r=true) (hx:bm r x=true) (b:1<=q) {us:List T3} {τ:Int->Nat} (a:∀u,τ u<q) (c:∀t∈us,vT r q t τ=cH r):∀es:List (Int×Int),tL r q (es.map (ld r q (cA r (cH r) x))++us) τ=pE r x es τ
 |[]=>ajP hr c
 |e::es=>by rw[zag,List.cons_append,tL,pE,aBx hr hx b e a,ajQ hr hx b a c es]
theorem aAB {n:Nat} {es:List (Int×Int)} (hr:bc r=true) (b:fq (n:Int) es=true) (hx:bm r x=true) (d:1<=q) (h:q<=4):∀t∈qe r (n:Int) es q (cA r (cH r) x),GT r q n t:=by intro t a;obtain⟨_,g⟩:=amC (q:=q) hr b (tc hr (kA hr) hx) d h;refine⟨g t a,fun l hl=>?_⟩;obtain⟨_,_,c⟩:=pT b;unfold qe at a;rcases AN.1 a with a|a;obtain⟨e,f,rfl⟩:=zay.1 a;have:=c e f;unfold ld at hl;split at hl;have:=GB.1 hl;omega;simp only[OF,zak,or_false] at hl;omega;rw[AI] at a;obtain⟨i,hi,_,rfl⟩:=Mv.1 a;have:=GB.1 hl;omega
theorem aA1 {n:Nat} {es:List (Int×Int)} (hr:bc r=true) (hg:fq (n:Int) es=true) (hx:bm r x=true) (a:1<=q) (h4:q<=4):kT r q n (qe r (n:Int) es q (cA r (cH r) x))=zE r q x ((n:Int),es):=by have g:∀τ:Int->Nat,∀t∈qa r q es (n:Int).toNat,vT r q t τ=cH r:=fun τ t j=>(by obtain⟨i,_,_,rfl⟩:=Mv.1 j;exact aBy hr a _ τ);unfold kT zE;have e:(mf n).filter (jz (qe r (n:Int) es q (cA r (cH r) x)))=mf n:=(by refine List.filter_eq_self.2 fun v b=>?_;have b:=QT.1 b;rw[Ij];unfold qe;by_cases hl:tH es v.toNat=true;refine⟨Ip r q (v.toNat:Int),AN.2 (.inr (Mv.2 ⟨v.toNat,by omega,hl,rfl⟩)),?_⟩;show v∈[((v.toNat:Nat):Int)];simp;omega;unfold tH at hl;rw[Bool.not_eq_true,List.all_eq_false] at hl;obtain⟨d,hd,f⟩:=hl;refine⟨ld r q (cA r (cH r) x) d,AN.2 (.inl (List.mem_map_of_mem hd)),?_⟩;have hor:d.1=v\/d.2=v:=(by simp only[decide_eq_true_eq] at f;omega);unfold ld;split;rename_i h;show v∈[d.1];simp;omega;show v∈[d.1,d.2];simp;omega);rw[e];show nQ r q (mf n) _ _=nQ r q (mf (n:Int).toNat) _ _;rw[AI];exact AL _ (fun τ c=>ajQ hr hx a c (g τ) es) fun _=>by omega
end
def S9:U->Option Bool:=fun _=>some true
theorem r6 {α β:Type} (x:α) (f:α->Option β):(some x).ab f=f x:=by
 have h:∀o:Option α,o=some x->o.ab f=f x:=by intro o h;subst h;rfl
 exact h _ rfl
theorem aAD {r:Rg} {n q:Nat} {es:List (Int×Int)} {x:U} (hr:bc r=true) (hn:1<=n/\n<=5) (he:es.length<=6) (c:fq (n:Int) es=true) (hx:bm r x=true) (a:1<=q/\q<=3): Gj (r,((n:Int),es),(q:Int),x)=some ((r.1,r.2.1,r.2.2,qe r (n:Int) es q (cA r (cH r) x),[]),true)/\ Gk (r.1,r.2.1,r.2.2,qe r (n:Int) es q (cA r (cH r) x),[])=some (vl r ((n:Int),es) (q:Int) x,true)/\ Bv (r,((n:Int),es),(q:Int),x)=some (vl r ((n:Int),es) (q:Int) x)/\ S8 (r,((n:Int),es),(q:Int),x)=some (vl r ((n:Int),es) (q:Int) x)/\ Bv (r,((n:Int),es),(q:Int),d9 r)=some (il r ((q:Int)^n))/\ bm r (vl r ((n:Int),es) (q:Int) x)=true:=by obtain⟨r1,r2,r3⟩:=r;have e:=rh hr;have hw:=ku hr;have rz:=fJ hx;have hzl:=fJ e;have b:∀{y:U},bm (r1,r2,r3) y=true->kG (r1,r2,r3) ((n:Int),es) (q:Int) y=true:=fun hy=>(by have:1<=(q:Int)/\(q:Int)<=4:=(by omega);simp[kG,B1,hr,c,hy,this.1,this.2]);obtain⟨l1,l2⟩:=QD (r:=(r1,r2,r3)) (q:=q) (es:=es) hr a.1 (by omega) n (by omega);have hlen:(qe (r1,r2,r3) (n:Int) es q (cA (r1,r2,r3) (cH (r1,r2,r3)) x)).length=es.length+(qa (r1,r2,r3) q es n).length:=(by unfold qe;rw[zac,zao,AI]);have f:(qe (r1,r2,r3) (n:Int) es q (cA (r1,r2,r3) (cH (r1,r2,r3)) x)).length<=12:=(by omega);have k:1<=(qe (r1,r2,r3) (n:Int) es q (cA (r1,r2,r3) (cH (r1,r2,r3)) x)).length:=(by by_cases h:es=[];have hm:Ip (r1,r2,r3) q ((0:Nat):Int)∈qa (r1,r2,r3) q es n:=Mv.2 ⟨0,by omega,by rw[h];rfl,rfl⟩;have:=List.length_pos_of_mem hm;omega;have:=List.length_pos_iff.2 h;omega);have l:=aAB (n:=n) (q:=q) hr c hx a.1 (by omega);have d:=aoZ (b hx);have i:zE (r1,r2,r3) q x ((n:Int),es)=vl (r1,r2,r3) ((n:Int),es) (q:Int) x:=(by rw[d,abE hr hx a.1 es.length ((n:Int),es) c rfl];exact(ah (b hx)).symm);have j:bm (r1,r2,r3) (vl (r1,r2,r3) ((n:Int),es) (q:Int) x)=true:=(by rw[d];exact O4 (b hx));refine⟨?_,?_,acX (by omega) (b hx),?_,?_,j⟩;rw[aAA (by omega)];unfold aaG;rw[ah (b hx),ah (by rw[AI];exact f),AI];rw[aBg hr a.1 a.2 hn.2 l f k,aA1 hr c hx a.1 (by omega),i];rw[d];exact ah ⟨by omega,by omega,by show es.length<=1048576;omega,fun _=>by show es.length<12;omega⟩;rw[acX (by omega) (b e),aoY (g:=((n:Int),es)) hr c (by omega)];rfl
def Ue (NN:Nat):U->(Option Bool):=
 (fun l0=>
 aD (cI (1048576:Int) (aM (ae l0)))
 (some true)
 ((JR (l0,(0:Int))).ab (fun(i1,i2,i3)=>
 (JP (l0,(10:Int))).ab (fun(i4,l5)=>
 (JS (l0,(60:Int),(1:Int),(3:Int))).ab (fun i6=>
 (JO (l0,(62:Int),i1,i2,i3)).ab (fun l7=>
 (Gj ((i1,i2,i3),(i4,l5),i6,l7)).ab (fun((i8,i9,gd,eC,de),UU)=>
 (cg eC 0 (ae eC)).ab (fun dj=>
 (cg de 0 (ae de)).ab (fun eQ=>
 (Gk (i8,i9,gd,dj,eQ)).ab (fun(dn,zL)=>
 (Bv ((i1,i2,i3),(i4,l5),i6,l7)).ab (fun eG=>
 aD (UU)
 (aD (zL)
 (aD (bq (aM (ae eG)) (aM (ae dn)))
 ((cg dn 0 (ae dn)).ab (fun fE=>
 (cg eG 0 (ae eG)).ab (fun iu=>
 (DM (fE,iu)).ab (fun b21=>
 aD (b21)
 ((S8 ((i1,i2,i3),(i4,l5),i6,l7)).ab (fun dY=>
 (cg dY 0 (ae dY)).ab (fun gp=>
 (cg eG 0 (ae eG)).ab (fun h9=>
 (DM (gp,h9)).ab (fun b25=>
 aD (b25)
 ((JI (i1,i2,i3)).ab (fun iv=>
 (cg iv 0 (ae iv)).ab (fun ja=>
 (Bv ((i1,i2,i3),(i4,l5),i6,ja)).ab (fun gX=>
 (JN (i6,i4)).ab (fun qK=>
 (xV ((i1,i2,i3),qK)).ab (fun kQ=>
 (cg gX 0 (ae gX)).ab (fun kE=>
 (cg kQ 0 (ae kQ)).ab (fun uU=>
 (DM (kE,uU)).ab (fun b33=>
 some b33)))))))))
 (some false))))))
 (some false)))))
 (some false))
 (some false))
 (some false))))))))))))
theorem ara (x:U) (z:Bool) (h:S9 x=some z):Ue aP x=some z:=by injection h with h;subst h;simp only[Ue];by_cases hl:x.length<=1048576;rw[aZ (d7 (by rw[nl];omega))];obtain⟨⟨r1,r2,r3⟩,A,hr⟩:=anO x 0 hl (by omega);obtain⟨⟨m,es⟩,B,hm,i,d⟩:=anN x 10 hl (by omega);obtain⟨j,k,hq⟩:=aAs x 60 1 3 hl (by omega) (by omega) (by omega) (by omega);obtain⟨v,w,y⟩:=anM x 62 (r1,r2,r3) hl (by omega) hr;dsimp only at hm i d;obtain⟨n,rfl⟩:∃n:Nat,m=(n:Int):=⟨m.toNat,by omega⟩;obtain⟨q,rfl⟩:∃q:Nat,j=(q:Int):=⟨j.toNat,by omega⟩;have u:fq (n:Int) es=true:=HC (by omega) (by omega) fun e t=>(by have:=d e t;omega);obtain⟨f,g,p,l,o,s⟩:=aAD (r:=(r1,r2,r3)) (n:=n) (q:=q) (es:=es) (x:=v) hr (by omega) i u y (by omega);dsimp only at f g;have hw:=ku hr;have jN:=fJ s;have a:((q:Int)^n)=((q^n:Nat):Int):=(by rw[zaE]);have iZ:1<=q^n:=zaH _ _ (by omega);have c:bm (r1,r2,r3) (il (r1,r2,r3) ((q:Int)^n))=true:=uv hr (by rw[a];omega);have cP:=fJ c;have b:xV ((r1,r2,r3),(q:Int)^n)=some (il (r1,r2,r3) ((q:Int)^n)):=congrArg some (ah ⟨hr,by rw[a];omega⟩);rw[A];simp only[r6];rw[B];simp only[r6];rw[k];simp only[r6];rw[w];simp only[r6];rw[f];simp only[r6,fP];rw[g];simp only[r6];rw[p];simp only[r6];rw[mX,mX,bL (tf rfl),Yk _ (by omega)];simp only[r6];rw[mX,l];simp only[r6,fP];rw[Yk _ (by omega)];simp only[r6];rw[mX,aBV hr];simp only[r6,fP];rw[o];simp only[r6];rw[ayW (by omega) (by omega)];simp only[r6];rw[b];simp only[r6,fP];rw[Yk _ (by omega)];simp only[r6];rw[bL (eD (by rw[nl];omega))]
section
def NQ (P:Program) (r:TypeId->Option (List Ty)):Nat->List Field->Option (List Ty)
 |_,[]=>some []
 |off,f::fs=>match r f.type with
  |some ts=>if f.offset=off/\P.cellsOf f.type=ts.length then(NQ P r (off+ts.length) fs).map (ts++·) else none
  |none=>none
def Js (P:Program):Nat->TypeId->Option (List Ty)
 |0,_=>none
 |n+1,t=>match P.underlying t with
  |some .bool=>some [.bool]
  |some (.int k)=>some [.int k]
  |some (.slice e)=>match Js P n e with
   |some ts=>if 0<ts.length/\P.cellsOf e=ts.length then some [.list ts] else none
   |none=>none
  |some (.struct fs)=>match NQ P (Js P n) 0 fs.toList with
   |some ts=>if P.cellsOf t=ts.length then some ts else none
   |none=>none
  |_=>none
mutual
def Ty.Wf:(t:Ty)->t.D->Prop
 |.int k,n=>LE.le (α:=Int) k.min n/\LE.le (α:=Int) n k.max
 |.bool,_=>True
 |.list ts,xs=>zaf (α:=Ty.DL ts) xs<=maxLen/\∀e:Ty.DL ts,List.Mem (α:=Ty.DL ts) e xs->Ty.s6 ts e
def Ty.s6:(ts:List Ty)->Ty.DL ts->Prop
 |[],_=>True
 |[t],x=>Ty.Wf t x
 |t::u::ts,x=>Ty.Wf t x.1/\Ty.s6 (u::ts) x.2
end
theorem ac3 (t:Ty) (ts:List Ty) (x:t.D) (y:Ty.DL ts):Ty.s6 (t::ts) (pN t ts x y)↔t.Wf x/\Ty.s6 ts y:=by cases ts with|nil=>exact⟨fun h=>⟨h,trivial⟩,fun h=>h.1⟩|cons u us=>exact Iff.rfl
theorem apd (t:Ty):∀(ts:List Ty) (x:Ty.DL (t::ts)),∃a b,x=pN t ts a b
 |[],x=>⟨x,(),rfl⟩
 |_::_,x=>⟨x.1,x.2,rfl⟩
theorem acg:∀(ts us:List Ty) (x:Ty.DL ts) (y:Ty.DL us),Ty.s6 ts x->Ty.s6 us y->∃z:Ty.DL (ts++us),Ty.aE (ts++us) z=Ty.aE ts x++Ty.aE us y/\Ty.s6 (ts++us) z
 |[],us,x,y,_,h=>⟨y,rfl,h⟩
 |t::ts,us,x,y,c,d=>by obtain⟨a,b,rfl⟩:=apd t ts x;rw[ac3] at c;obtain⟨z,e,f⟩:=acg ts us b y c.2 d;exact⟨pN t (ts++us) a z,by have c:Ty.aE (t::(ts++us)) (pN t (ts++us) a z)=t.er a::Ty.aE (ts++us) z:=Hf _ _ _ _;have d:Ty.aE (t::ts) (pN t ts a b)=t.er a::Ty.aE ts b:=Hf _ _ _ _;exact c.trans (by rw[d,e];rfl),(ac3 _ _ _ _).2 ⟨c.1,f⟩⟩
theorem ag4 {α β:Type} {f:α->Option β}:∀{l:List α} {r:List β},l.mapM f=some r->r.length=l.length/\∀(i:Nat) (x:α),l[i]? =some x->∃y,r[i]? =some y/\f x=some y:=by intro l;induction l with|nil=>intro r h;simp at h;subst h;exact⟨rfl,by simp⟩|cons a l b=>intro r h;rw[zaJ] at h;cases hx:f a with|none=>simp[hx] at h|some y=>cases XR:l.mapM f with|none=>simp[hx,XR] at h|some ys=>simp[hx,XR] at h;subst h;obtain⟨i1,i2⟩:=b XR;refine⟨by simp[i1],fun i x hi=>?_⟩;cases i with|zero=>simp at hi;subst hi;exact⟨y,rfl,hx⟩|succ i=>exact i2 i x (by simpa using hi)
theorem aoL {w:World} {a:Addr} {n:Nat} {cs:List Value} (h:w.cells? 0 a n=some cs):cs.length=n/\∀(j:Nat) (c:Value),cs[j]? =some c->w.cell? (a.add j)=some c:=by
 unfold World.cells? at h;rw[ah (zaN _)] at h;obtain⟨d,g⟩:=ag4 h;simp only[zad] at d;refine⟨d,fun j c hj=>?_⟩;have f:j<n:=by rw[<-d];exact(IT.1 hj).1
 obtain⟨y,b,e⟩:=g j j (zat f);rw[hj] at b;injection b with b;subst b;exact e
theorem aoK {w:World} {a:Addr} {v:Value} (h:w.cell? a=some v):a=ad a.block a.off:=by unfold World.cell? at h;split at h;split at h;cases h;rename_i hs;obtain⟨b,o,s⟩:=a;(cases s with|none=>rfl|some q=>simp at hs);cases h
theorem ab6 (a:Addr):a.add 0=a:=by unfold Addr.add;simp
section
variable {H:Type} {enc:TypeId×Value->H} {P:Program} {w:World} {sp:Nat->Bool} {held:Bool}
def wP (P:Program) (w:World) (ts:List Ty) (cs:List Value):Prop:=
 ∃(x:Ty.DL ts) (cQ:List PC),cQ.map PC.er=Ty.aE ts x/\cQ.map PC.val=cs/\(∀pc∈cQ,Good w pc)/\Ty.s6 ts x
theorem wP.one {t:Ty} {x:t.D} {pc:PC} {c:Value} (a:pc.er=t.er x) (e:pc.val=c) (b:Good w pc) (d:t.Wf x):wP P w [t] [c]:= ⟨x,[pc],by simp only[zag,zaA,a];rfl,by simp[e],by simpa using b,d⟩
theorem akd {r:TypeId->Option (List Ty)} {q:TypeId->List Value->Option (DataW H×List MemPlace)} (hr:∀t ts cs y,r t=some ts->q t cs=some y->wP P w ts cs) (cs:List Value): ∀(d:List Field) (off:Nat) (ts:List Ty) (ys:List (DataW H×List MemPlace)),NQ P r off d=some ts->d.mapM (fun f=>q f.type ((cs.drop f.offset).take (P.cellsOf f.type)))=some ys->wP P w ts ((cs.drop off).take ts.length)
 |[],off,ts,ys,a,h2=>by simp only[NQ] at a;injection a with a;subst a;exact⟨(),[],rfl,by simp,by simp,trivial⟩
 |f::d,off,ts,ys,a,h2=>by simp only[NQ] at a;split at a;rename_i b D;split at a;rename_i A;obtain⟨v,k⟩:=A;rw[zan] at a;obtain⟨c,E,rfl⟩:=a;rw[zaJ] at h2;(cases hq:q f.type ((cs.drop f.offset).take (P.cellsOf f.type)) with|none=>simp[hq] at h2|some y=>cases hqs:d.mapM (fun f=>q f.type ((cs.drop f.offset).take (P.cellsOf f.type))) with|none=>simp[hq,hqs] at h2|some e=>obtain⟨p,p1,m,x,l,h⟩:=hr _ _ _ _ D hq;obtain⟨o,n,i,C,s,B⟩:=akd hr cs d (off+b.length) c e E hqs;obtain⟨z,g,j⟩:=acg b c p o h B;refine⟨z,p1++n,by rw[zaF,m,i,g],?_,fun pc u=>(AN.1 u).elim (l pc) (s pc),j⟩;rw[zaF,x,C,v,k,zac,List.take_add,zaI]);cases a;cases a
theorem aAt {r:Nat} {t e:TypeId} {us:List Ty} {cs:List Value} {y:DataW H×List MemPlace} (Q:∀cs y,DataW.trod enc P w 0 sp held r e cs=some y->wP P w us cs) (l:0<us.length) (B:P.cellsOf e=us.length) (U:P.underlying t=some (.slice e)) (h:DataW.trod enc P w 0 sp held (r+1) t cs=some y):wP P w [.list us] cs:=by rw[DataW.trod_step] at h;unfold DataW.trodStep at h;simp only[U] at h;(split at h<;>first|(cases h;done)|(rename_i f;cases f;done)|skip);exact wP.one (t:=.list us) (x:=([]:List (Ty.DL us))) (pc:=.list us.length none 0 []) (by rw[PC.fK];rfl) rfl (.nil _ _ _ l) ⟨zaN _,fun e d=>by cases d⟩;rename_i e' a len cap f;injection f with f;injection f with f;subst f;split at h;rename_i O;obtain⟨_,hlc,m6⟩:=O;rw[zah] at h;obtain⟨elems,d,_⟩:=h;obtain⟨J,N⟩:=ag4 d;simp only[zad] at J;have each:∀i:Fin len,∃(x:Ty.DL us) (g:List PC),g.map PC.er=Ty.aE us x/\(∀pc∈g,Good w pc)/\Ty.s6 us x/\∀j pc,g[j]? =some pc->w.cell? ((a.add (i.1*us.length)).add j)=some pc.val:=(by intro i;obtain⟨A,_,v⟩:=N i.1 i.1 (zat i.2);rw[zah] at v;obtain⟨o,q,T⟩:=v;rw[B] at q;obtain⟨c1,D⟩:=aoL q;obtain⟨x,g,G,L,E,C⟩:=Q o A T;refine⟨x,g,G,E,C,fun j pc hj=>D j pc.val ?_⟩;rw[<-L,zaw,hj];rfl);let xs:List (Ty.DL us):=List.ofFn fun i:Fin len=>zal (each i);let px:List (List PC):=List.ofFn fun i:Fin len=>zal (IN (each i));have p:∀k e,px[k]? =some e->∃i:Fin len,i.1=k/\e=zal (IN (each i)):=(by intro k e b;rw[zau] at b;split at b;rename_i F;injection b with b;exact⟨⟨k,F⟩,rfl,b.symm⟩;cases b);have spec:=fun i:Fin len=>IN (IN (each i));have M:px.length=len:=(by simp[px]);have aB8:xs.length=len:=(by simp[xs]);have R:px.map (fun e=>e.map PC.er)=List.map (Ty.aE us) xs:=(by apply List.ext_getElem?;intro k;simp only[zaw,px,xs,zau];by_cases b:k<len;simp only[b,dif_pos,Option.map_some];rw[(spec ⟨k,b⟩).1];simp only[b,dif_neg,not_false_eq_true,Option.map_none]);have K:∀x∈xs,Ty.s6 us x:=(by intro x hx;obtain⟨i,hi⟩:=List.mem_ofFn.1 hx;subst hi;exact(spec i).2.2.1);have s:∀e∈px,e.length=us.length:=(by intro e d;obtain⟨k,b⟩:=List.getElem?_of_mem d;obtain⟨i,_,rfl⟩:=p k e b;have:=congrArg zaf (spec i).1;rwa[zao,Ty.mC] at this);have z:∀k j c,At px k j c->Good w c:=(by rintro k j c ⟨e,d,hj⟩;obtain⟨i,_,rfl⟩:=p k e d;exact(spec i).2.1 c (zar hj));have m:∀k j c,At px k j c->w.cell? ((a.add (k*us.length)).add j)=some c.val:=(by rintro k j c ⟨e,d,hj⟩;obtain⟨i,rfl,rfl⟩:=p k e d;exact(spec i).2.2.2 j c hj);refine wP.one (t:=.list us) (x:=xs) (pc:=.list us.length (some a) cap px) (by rw[PC.fK,R];rfl) (by simp[PC.val,M]) ?_ ⟨by show xs.length<=maxLen;omega,fun x hx=>K x hx⟩;by_cases n:px=[];rw[n];exact .nil _ _ _ l;obtain⟨V,S⟩:=aco n l s;have u:=m 0 0 V S;rw[zap,ab6,ab6] at u;have I:=aoK u;rw[I] at m⊢;refine .cons _ _ _ _ _ n (by omega) l s (fun k j c b=>?_) z;have:=m k j c b;rwa[ud,ud] at this;cases h
theorem abn:∀(g:Nat) (t:TypeId) (cs:List Value) (y:DataW H×List MemPlace) (n:Nat) (ts:List Ty),DataW.trod enc P w 0 sp held g t cs=some y->Js P n t=some ts->wP P w ts cs
 |0,t,cs,y,n,ts,h,a=>by simp[DataW.trod] at h
 |g+1,t,cs,y,0,ts,h,a=>by simp[Js] at a
 |g+1,t,cs,y,n+1,ts,h,a=>by simp only[Js] at a;cases hu:P.underlying t with|none=>rw[hu] at a;cases a|some d=>rw[hu] at a;(cases d<;>simp only at a<;>first|(cases a;done)|skip);(case bool=>injection a with a;subst a;rw[DataW.trod_step] at h;unfold DataW.trodStep at h;simp only[hu] at h;(split at h<;>first|(cases h;done)|(rename_i c;cases c;done)|skip);rename_i b c;exact wP.one (t:=.bool) (x:=b) (pc:=.bool b) rfl rfl (.bool b) trivial);(case int k=>injection a with a;subst a;rw[DataW.trod_step] at h;unfold DataW.trodStep at h;simp only[hu] at h;(split at h<;>first|(cases h;done)|(rename_i c;cases c;done)|skip);rename_i k1 l o c;injection c with c;injection c with c;subst c;split at h;rename_i i;obtain⟨rfl,i⟩:=i;simp only[Lit.wf,BY,decide_eq_true_eq] at i;exact wP.one (t:=.int l) (x:=o) (pc:=.int l o) rfl rfl (.int l o) i;cases h);(case slice e=>split at a;rename_i us m;split at a;rename_i p;obtain⟨p,j⟩:=p;injection a with a;subst a;exact aAt (fun cs y hy=>abn g e cs y n us hy m) p j hu h;cases a;cases a);case struct fs=>rw[DataW.trod_step] at h;unfold DataW.trodStep at h;simp only[hu] at h;(split at h<;>first|(cases h;done)|(rename_i c;cases c;done)|skip);rename_i f;split at a;rename_i us m;split at a;rename_i j;injection a with a;subst a;rw[zan] at h;obtain⟨ys,r,h2⟩:=h;have:=akd (P:=P) (w:=w) (fun t ts cs y s q=>abn g t cs y n ts q s) cs fs.toList 0 us ys m r;rwa[IS,<-j,<-f,Pd] at this;cases a;cases a
end
end
section
open Go.ChangeShapes Go.WideShapes Go.ChangeAt Go.RowKit
def GG:(as:aF)->aX as.aW->Prop
 |[],_=>True
 |[a],x=>Ty.s6 a.2 x
 |a::b::as,x=>Ty.s6 a.2 x.1/\GG (b::as) x.2
theorem apc (a:K×List Ty) (as:aF) (x:Ty.DL a.2) (y:aX (aF.aW as)):Ty.s6 a.2 x->GG as y->GG (a::as) (Ec a.2 (aF.aW as) x y):=by intro c d;cases as with|nil=>exact c|cons b as=>exact⟨c,d⟩
def Vk (P:Program) (t:TypeId) (a:K×List Ty):Bool:=
 match Js P 30 t with
 |some ts=>Ty.r5 ts a.2&&(match P.underlying t,a.1 with
  |some (.struct _),.agg=>true
  |some (.int _),.one=>true
  |some .bool,.one=>true
  |some (.slice _),.one=>true
  |_,_=>false)
 |none=>false
def G0 (P:Program):List TypeId->aF->Bool
 |[],[]=>true
 |t::ts,a::as=>Vk P t a&&G0 P ts as
 |_,_=>false
section
variable {H:Type} {enc:TypeId×Value->H} {P:Program} {w w':World} {sp:Nat->Bool} {held:Bool}
theorem aof {t:TypeId} {a:K×List Ty} {v:Value} {d:DataW H} {ps:List MemPlace} (f:Vk P t a=true) (c:Value.okWide P w .any 0 t v) (hd:DataW.Trod enc P w 0 sp held t v d ps): ∃x:Ty.DL a.2,Gb w (a.1,Ty.aE a.2 x) v/\Ty.s6 a.2 x:=by obtain⟨p,hd⟩:=hd;unfold Vk at f;split at f;rename_i ts n;simp only[BY] at f;obtain⟨g,j⟩:=f;have g:=Ty.qt g;subst g;obtain⟨x,i,l,m,h,q⟩:=abn p t v.cells.toList _ 30 a.2 hd n;refine⟨x,?_,q⟩;unfold Value.okWide at c;have one:(∀cs,v≠ .agg cs)->a.1=.one->Gb w (a.1,Ty.aE a.2 x) v:=(by intro hn ha;have o:v.cells.toList=[v]:=(by cases v<;>first|rfl|(rename_i cs;exact absurd rfl (hn cs)));rw[ha];exact⟨i,l,h,by rw[m,o]⟩);split at j;rename_i fs b ha;rw[b] at c;obtain⟨cs,rfl,_,_⟩:=c;rw[ha];exact⟨i,l,h,by rw[m];rfl⟩;rename_i k b ha;refine one (fun cs e=>?_) ha;subst e;rw[b] at c;simp[Cell.okWide,b,Cell.ok] at c;rename_i b ha;refine one (fun cs e=>?_) ha;subst e;rw[b] at c;simp[Cell.okWide,b,Cell.ok] at c;rename_i e b ha;refine one (fun cs e=>?_) ha;subst e;rw[b] at c;simp[Cell.okWide,b,Cell.ok] at c;cases j;cases f
theorem ack:∀{ts:List TypeId} {as:aF} {vs:List Value} {ds:List (DataW H)} {ps:List MemPlace},G0 P ts as=true->(∀(j:Nat) (t:TypeId) (v:Value),ts[j]? =some t->vs[j]? =some v->Value.okWide P w .any 0 t v)-> DataW.TrodAll enc P w 0 sp held ts vs ds ps->∃x:aX (aF.aW as),Jz w (dG as x) vs/\GG as x
 |[],[],vs,ds,ps,hc,hv,h=>by obtain⟨rfl,rfl,rfl⟩:=trodAll_nil h;exact⟨(),⟨rfl,by intro j d v hj;simp[dG] at hj⟩,trivial⟩
 |t::ts,a::as,vs,ds,ps,hc,hv,h=>by simp only[G0,BY] at hc;obtain⟨v,vs1,d,ds1,p,q,rfl,rfl,rfl,i,g⟩:=trodAll_cons h;obtain⟨x,e,k⟩:=aof hc.1 (hv 0 t v rfl rfl) i;obtain⟨y,c,m⟩:=ack hc.2 (fun j t v l f=>hv (j+1) t v (by simpa using l) (by simpa using f)) g;refine⟨Ec a.2 (aF.aW as) x y,?_,apc a as x y k m⟩;rw[KO];refine⟨by simp[c.1],fun j d v hj b=>?_⟩;cases j with|zero=>simp at hj b;subst hj;subst b;exact e|succ j=>exact c.2 j d v (by simpa using hj) (by simpa using b)
 |[],_::_,vs,ds,ps,hc,hv,h=>by simp[G0] at hc
 |_::_,[],vs,ds,ps,hc,hv,h=>by simp[G0] at hc
theorem anc (a:∀b,b<w.heap.size->w'.heap[b]? =w.heap[b]?):∀{ts:List TypeId} {vs:List Value} {ds:List (DataW H)} {ps:List MemPlace},DataW.TrodAll enc P w 0 sp held ts vs ds ps->DataW.TrodAll enc P w' 0 sp held ts vs ds ps
 |[],[],[],_,h=>h
 |t::ts,v::vs,d::ds,_,⟨p,q,⟨n,h1⟩,h2,e⟩=>by refine⟨p,q,⟨n,DataW.trod_carry n t _ _ h1 fun c g=>?_⟩,anc a h2,e⟩;have f:=DataW.trod_lt n t _ _ h1 c g;cases c with|cell b o=>have hb:=a b f;simp only[World.sameAt,World.cell?,hb]|map b=>exact a b f
 |[],[],_::_,_,h=>h.elim
 |[],_::_,_,_,h=>h.elim
 |_::_,[],_,_,h=>h.elim
 |_::_,_::_,[],_,h=>h.elim
theorem auY (c:w'.os=w.os) (e:w'.output=w.output) (d:∀b,b<w.heap.size->w'.heap[b]? =w.heap[b]?) (a:MemPlace->Prop):w.keptBut w' a:=by have DZ:=World.keptBut_refl w a;refine⟨c,e,fun i hi=>?_⟩;rw[d i hi];exact DZ.2.2 i hi
theorem ayT {f:Func} {s:ChangeSpec} {c z w y:Bool} {W g:World} {args:Array Value} {v:Value} {ds h:List (DataW H)} {e pa pv:List MemPlace} (l:DataW.Whole enc P f.params.toList s.vars c W args.toList ds h e) (i:∀(b:Nat) (sp:Nat->Bool) (hd:Bool),DataW.TrodAll enc P g b sp hd f.resultTypes.toList (v.resultList f.resultTypes.size) (s.fn H (ds++h)).results []) (n:∀sp:Nat->Bool,(∀p∈e,sp p.block=true)->DataW.TrodAll enc P g 0 sp true f.params.toList args.toList (s.fn H (ds++h)).args pa) (k:∀sp:Nat->Bool,(∀p∈e,sp p.block=true)->DataW.TrodVars enc P g sp s.vars (s.fn H (ds++h)).vars pv) (m:e=pa++pv) (x:W.keptBut g (·∈e)) (B:∀a:Addr,a.block<W.heap.size->g.frozen? a=W.frozen? a) (A:∀(j:Nat) (t:TypeId) (r:Value),f.resultTypes[j]? =some t->(v.resultList f.resultTypes.size)[j]? =some r->Value.okWide P g .any 0 t r): s.post enc P f c z w y W args v g:=by have d:∀p∈e,(fun b=>decide (b<W.heap.size)) p.block=true:=fun p hp=>(by simpa using l.lt p hp);have u:=l.lt;refine⟨ds,h,e,[],pa,pv,l,i _ _ _,n _ d,k _ d,World.keptBut_mono (fun p hp=>⟨hp,?_⟩) x,fun _=>?_⟩;rw[m,AN] at hp;exact Or.inr hp;obtain⟨_,_,_,_,_,q,hn⟩:=l;refine⟨A,_,_,([]++pa)++pv,⟨[]++pa,pv,trodAll_append (n _ (fun _ _=>rfl)) (i _ _ _),k _ (fun _ _=>rfl),rfl,?_,?_⟩,?_⟩;intro b off hp;have o:MemPlace.cell b off∈e:=(by rw[m];simpa using hp);rw[B ⟨b,off,none⟩ (u _ o)];exact q b off o;intro ha;have:=hn ha;rw[m] at this;simpa using this;intro p hp _;rw[m];simpa using hp
theorem azs {c:List (K×List PC)} {b:Bool} (h:c.map (fun p=>(p.1,p.2.map PC.er))=[(K.one,[C.bool b])]):zr c=.bool b:=by
 match c,h with
 |[],h=>simp at h
 |_::_::_,h=>simp at h
 |[(k,cQ)],h=>
  simp only[zag,zaA,zaG,Prod.mk.injEq,and_true] at h;obtain⟨rfl,h⟩:=h;match cQ,h with
  |[],h=>simp at h
  |_::_::_,h=>simp at h
  |[pc],h=>
   simp only[zag,zaA,zaG,and_true] at h;cases pc with
   |bool b=>simp[PC.er] at h;subst h;rfl
   |int k n=>simp[PC.er] at h
   |list sz a cap xs=>rw[PC.fK] at h;cases h
theorem ane:∀{ts:List TypeId} {vs:List Value} {ds:List (DataW H)} {ps:List MemPlace},DataW.TrodAll enc P w 0 sp held ts vs ds ps->ds.length=ts.length
 |[],vs,ds,ps,h=>by obtain⟨rfl,rfl,rfl⟩:=trodAll_nil h;rfl
 |t::ts,vs,ds,ps,h=>by obtain⟨v,vs1,d,ds1,p,q,rfl,rfl,rfl,h1,a⟩:=trodAll_cons h;simp[ane a]
def afk (P:Program):Bool:=(List.range P.types.size).all fun t=>match P.underlying t with|some (.slice e)=>decide (0<P.cellsOf e)|_=>true
theorem avh {f:FuncId} {fn:Func} {s:ChangeSpec} {sg:aF} {M:List Dv->Option (List Dv)} {tb:TypeId} (hl:laidOutB P=true) (r:mapsRowed P=true) (y:afk P=true) (z:∀t∈fn.params.toList,t<P.types.size) (hp:G0 P fn.params.toList sg=true) (hr:fn.resultTypes=#[tb]) (hb:P.underlying tb=some .bool) (hs:s.vars=[]) (o:∀ds:List (DataW H),ds.length=fn.params.toList.length->(s.fn H ds).results=[.lit (.bool true)]/\(s.fn H ds).args=ds/\(s.fn H ds).vars=[]) (l:dV P f M) (B:∀x:aX (aF.aW sg),GG sg x->M (dG sg x)=some [(.one,[.bool true])]) {c L F K:Bool} {W:World} {DZ:Nat} {args:Array Value} {ds A:List (DataW H)} {S:List MemPlace} (T:∀(j:Nat) t v,fn.params[j]? =some t->args[j]? =some v->Value.okWide P W .any DZ t v) (u:DataW.Whole enc P fn.params.toList s.vars c W args.toList ds A S): Calls P f args W fun e i=>∃v,e=.returned v/\s.post enc P fn c L F K W args v i:=by have m:=u;obtain⟨p,q,n,w,rfl,PH,iQ⟩:=u;rw[hs] at w;obtain⟨rfl,rfl⟩:=trodVars_none w;obtain⟨x,hx,D⟩:=ack hp (fun j t v G E=>Value.okWide_any_base<|T j t v (by rw[<-zaq];exact G) (by rw[<-zaq];exact E)) n;have g:=l _ _ (B x D) W args.toList hx;have J:args.toList.toArray=args:=(by cases args;rfl);rw[J] at g;refine g.mono fun e i ⟨bQ,p1,C,p3,p4,h⟩=>?_;have U:=azs p1;have k:∀b,b<W.heap.size->i.heap[b]? =W.heap[b]? :=fun b hb=>h.block b hb id;have d:=ane n;obtain⟨N,R,I⟩:=o ds d;refine⟨_,C,?_⟩;rw[U];refine ayT (pa:=p) (pv:=[]) m (fun _ _ _=>?_) (fun sp o=>?_) (fun _ _=>?_) (by simp) (auY h.os h.output k _) (fun a ha=>?_) ?_;rw[If,N,hr];exact trodAll_cons_mk (shut_bool hb _) trodAll_mk0;rw[If,R];exact DataW.TrodAll.respare (kids_rows hl r) (slices_full_of P y) z (anc k n) (fun Q O=>o Q (by simpa using O));rw[If,hs,I];rfl;simp only[World.frozen?,k a.block ha];rw[hr];rw[<-hr];exact ok_one hr rfl (okWide_bool_mk hb _)
end
theorem aBR {P:Program} {bg:aF} {b:K×List Ty} {args:aF} (hb:bg=b::args) {T:List ax} (d:av P T) (hm:P.follows .mixedOrders=true) {f:FuncId} {sc:bO} {ms:List bI} {mu:cR} {aC:aF} (c:cK P f sc.er ms (b::args).length=true) (F:aX (aF.aW (iA::iA::b::args))->Option (aX aC.aW)) (a:∀x y,F x=some y->Nd aP T sc ms mu.nq (b::args) aC x.1 x.2.1 x.2.2=some y):DU P f mu.nq (ax.MX ⟨f,iA::iA::b::args,mu,aC,F⟩)/\bX P f=true:= aBQ d hm c F a
end

end Go.Am
