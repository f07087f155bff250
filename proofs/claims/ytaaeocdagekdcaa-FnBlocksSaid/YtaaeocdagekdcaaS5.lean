/- AmI, AmJ, Am24, Am25, Am26, Am27, Am28, Am29, Am30, AmW, S0, S1, S2, S3, S4, S4c, S5: parts of the proof. No condition. -/
import Derived.Test.YtaaeocdagekdcaaAmH
set_option linter.unusedVariables false
set_option linter.unusedSimpArgs false
open List renaming map->co,mem_of_getElem?->wt,length_map->AI,getElem?_eq_getElem->AN,map_cons->By,getElem?_map->GB,getElem?_eq_some_iff->If,filterMap_cons->IN,eq_nil_of_length_eq_zero->IT,mem_cons->zaa,mem_map->zab,map_map->zac,map_congr_left->zae,getElem?_eq_none->zal,map_set->zam,map_take->zan,getD_eq_getElem?_getD->zao,getElem?_of_mem->zap,pairwise_iff_getElem->zaq,length->zar,getElem_of_mem->zas,map_drop->zat,all_cons->zaw,all_eq_true->zaA,mem_append->zaC,mem_singleton->zaF,replicate->zaG,getElem?_eq_none_iff->zaH,take->zaI,ext_getElem?->zaJ,getElem?_cons_zero->zaL,length_cons->zaN,map_nil->zaQ,mem_cons_of_mem->zaU,getD_cons_zero->zaV,getElem?_ofFn->zaW,map_replicate->zaX,all_nil->za0,map_append->za1,drop->za5
open Option renaming map_some->AT,map_none->IS,bind_some->zai,isSome_map->zaK,map_eq_some_iff->zaP,map->zaT
open Bool renaming and_eq_true->BY,false_eq_true->Pe,not_eq_true'->zax,and_true->zaM,true_and->za2
open Nat renaming ble_eq_true_of_le->OF,le_refl->zad,beq_refl->zaf,sub_zero->zag,add_sub_cancel_left->zah,ble->zau,beq->zav,eq_of_beq_eq_true->zay,le_of_ble_eq_true->zaz,zero_le->zaB,add_zero->zaE,le_add_right->zaO,zero_mul->zaZ,zero_add->za4,sub_self->za6
open Option.some renaming injEq->Pd
open Array renaming replicate->zaj,getD_eq_getD_getElem?->zak,getElem?_append->zaR
open List.cons renaming injEq->zaD
open Classical renaming choose_spec->zaS
open List.Pairwise renaming nil->zaY
open Function renaming comp->za3
namespace Go.Am
section
variable {B N:Nat} {E:Ex} {w0 w w':World} {G G':Gh} {h h':Nat->Option aV} {used used':Nat->Bool} {P:Program} {o:Oper} {a:Act} {σ σ':St} {Q:Exit->Act->World->Prop} {T:bz} {aR:Array Oper}
theorem amt (r:R B E w0 N σ a w G) {n d:Nat} {t e:TypeId} {i:TypeInfo} {x y:Operand} {mx my:MO} {sz:Nat} {l:Int} {m:Mode} {xs:List (List C)} {σ1:St} (ho:o.op=.slice t x (some y) none none) (hd:o.dst=some n) (hN:n<N) (iL:cX x mx=true) (iM:cX y my=true) (ht:P.underlying t=some (.slice e)) (Y:P.info? e=some i) (dn:i.size=sz) (jh:0<sz) (hx:σ.ev mx=.one (.sl d sz 0 xs.length)) (hl:(σ.ev my).fW=some l) (L:0<=l) (h1:l<=(xs.length:Int)) (hn:σ.h d=some (.row true m sz xs)) (Di:(σ.del d).ins n (.row true m sz (xs.drop l.toNat))=some σ1): o.wp P a w (fun J w'=>w'=w/\(∃v,J=a.put o.dst v)/\∃p:PB,R B E w0 N (σ1.put o.dst (.one (.sl n sz 0 (xs.length - l.toNat)))) J w ⟨G.Im,aN G.g n p⟩/\p.px=(G.g d).px.drop l.toNat/\(p.nl=false->p.b=(G.g d).b/\(G.g d).nl=false)) Q:=by obtain⟨IA,rfl⟩:=oR Di;obtain⟨x1,x2⟩:=r.ev iL;rw[hx] at x1 x2;obtain⟨W,ey⟩:=(r.ev iM).1.int hl;have O:σ.h d≠none:=(by rw[hn];simp);have kg:jD (G.g d) sz 0 xs.length (a.eval x):=(x1.il (by simp)).1 O;have H:=r.hr;have hr:=H.row d true m sz xs hn;have tc:xs.length=(G.g d).px.length:=(by rw[hr.er];simp);have F:=ql.Q1 H hn (fun _=>rfl);have hln:l.toNat<=xs.length:=(by omega);obtain⟨p,v,D,u,IB,A,T⟩:∃(p:PB) (v:Value),p.px=(G.g d).px.drop l.toNat/\(execOp a.eval o).run P w=.ok (.value v) w/\(p.nl=true->p.px=[]/\p.cap=0)/\ (p.nl=false->(G.g d).nl=false/\p.b=(G.g d).b/\p.o=(G.g d).o+l.toNat*sz/\p.cap=(G.g d).cap - l.toNat/\l.toNat<=(G.g d).cap)/\jD p sz 0 (xs.length - l.toNat) v:=(by rcases kg with⟨bq,V,_,kw⟩|⟨bq,J,V,j9,ha⟩;have u:=N6 (P:=P) (w:=w) (ya:=(G.g d).na) (len:=0) (cap:=(G.g d).cap) (lo:=some (.int W l)) (hi':=none) (l:=l) (hh:=0) ht Y dn (.inr ⟨W,rfl⟩) (.inl ⟨rfl,rfl⟩) L (by omega) (by omega) (zaB _);obtain⟨Gn,EG⟩:=hr.nl bq;have EG:=EG rfl;have hlz:l.toNat=0:=(by omega);refine⟨⟨true,0,0,0,[],(G.g d).na⟩,.slice (G.g d).na 0 0,by rw[Gn];simp,?_,fun _=>⟨rfl,rfl⟩,(fun h=>by cases h),.inl ⟨rfl,rfl,rfl,by omega⟩⟩;simp only[execOp,ho,V,IS,AT,ey];simp_all;have u:=N6 (P:=P) (w:=w) (ya:=J) (len:=xs.length) (cap:=(G.g d).cap - 0) (lo:=some (.int W l)) (hi':=none) (l:=l) (hh:=xs.length) ht Y dn (.inr ⟨W,rfl⟩) (.inl ⟨rfl,rfl⟩) L h1 (by omega) (by omega);have rQ:=ha (.inr rfl);have e2:((xs.length:Int) - l).toNat=xs.length - l.toNat:=(by omega);rw[e2,zag] at u;by_cases hc:(G.g d).cap=l.toNat;have e3:xs.length - l.toNat=0:=(by omega);rw[ai hc,e3] at u;refine⟨⟨true,0,0,0,[],J⟩,.slice J 0 0,?_,?_,fun _=>⟨rfl,rfl⟩,(fun h=>by cases h),.inl ⟨rfl,rfl,rfl,e3⟩⟩;simp_all;simp only[execOp,ho,V,IS,AT,ey,zag];simp_all;rw[aq hc,rQ] at u;simp only[AT,vn,zaZ,zaE] at u;refine⟨⟨false,(G.g d).b,(G.g d).o+l.toNat*sz,(G.g d).cap - l.toNat,(G.g d).px.drop l.toNat,none⟩,.slice (some (ad (G.g d).b ((G.g d).o+l.toNat*sz))) (xs.length - l.toNat) ((G.g d).cap - l.toNat),rfl,?_,(fun h=>by cases h),fun _=>⟨bq,rfl,rfl,rfl,by omega⟩,.inr ⟨rfl,some (ad (G.g d).b ((G.g d).o+l.toNat*sz)),by simp,by simp;omega,fun _=>by simp⟩⟩;simp only[execOp,ho,V,IS,AT,ey,zag,rQ,zaZ,zaE];simp[u]);have K:∀b,bK b p.px->bK b (G.g d).px:=fun b f=>at9 (by rw[<-D];exact f);have H1:HR B E w G (aN σ.h d none) σ.used []:=H.del d;have K1:bU w G σ.h (fun q=>σ.used q=true) w G (aN σ.h d none):=bU.del d _;have Hn:HR B E w ⟨G.Im,aN G.g n p⟩ (aN (aN σ.h d none) n (some (.row true m sz (xs.drop l.toNat)))) (aN σ.used n true) []:=(by refine H1.insert (w':=w) (p:=p) IA (fun _ _=>rfl) (zad _) (fun z=>?_) (fun cs c q f=>by cases f) ?_ ?_ ?_ (fun gr m sz xs _ _ i pc b Y=>by simp at Y);obtain⟨I,M,Z,U,q5⟩:=A z;obtain⟨o1,o2,o3⟩:=H.own d O I;rw[M];refine⟨⟨o1,fun q s Fm=>?_,fun q gr m' bf aM s f=>?_⟩,o2,o3⟩;obtain⟨d1,d2⟩:=Bh s;exact H.inj q d d1 O d2 Fm I;exact H.vI O I (rL s).1 f rfl;refine⟨hr.pos,by rw[D,hr.er,zat],fun h=>⟨(IB h).1,fun _=>(IB h).2⟩,fun z=>?_,fun z _=>?_,?_,fun _ hm k c S=>hr.nr rfl hm _ _ (CR (by rw[<-D];exact S))⟩;obtain⟨I,M,Z,U,q5⟩:=A z;obtain⟨l1,⟨l2,l3,l4⟩,l5⟩:=hr.f6 I;rw[M,Z,U,D];refine⟨l1,⟨fun e he=>l2 e (List.mem_of_mem_drop he),fun k j c S=>?_,fun k j c S=>l4 _ _ _ (CR S)⟩,by simp;omega⟩;have:=l3 _ _ _ (CR S);grind;obtain⟨I,M,Z,U,q5⟩:=A z;obtain⟨r2,cur,ee,r3,r4⟩:=hr.room I rfl;unfold Ld;rw[M,Z,U];refine⟨by omega,cur,ee,r3,?_⟩;rw[r4,Nat.add_assoc,<-Nat.add_mul];congr 2;omega;have hm:=hr.mode;show Hd B E w _ p.px m;(cases m with|bh=>exact fun b f=>hm b (K b f)|bi=>exact⟨fun b f=>hm.1 b (K b f),by rw[D];exact hm.2.drop _⟩|live=>exact⟨fun b f=>hm.1 b (K b f),by rw[D];exact hm.2.drop _⟩);intro gr m' bf aM f kL q cq mo mC ko L kM b X;injection f with _ f _ _;subst f;exact F.jE kL q cq mo mC ko L kM b (K b X);intro gr bf aM f b X;injection f with _ f _ _;exact⟨fun z=>by rw[(A z).2.1];exact H.vI O (A z).1 hn (K b X),fun q L Fm=>F.live f b (K b X) q L Fm⟩);have r':R B E w0 N {(σ.del d) with h:=aN (σ.del d).h n (some (.row true m sz (xs.drop l.toNat))),used:=aN (σ.del d).used n true} a w ⟨G.Im,aN G.g n p⟩:= r.step rfl (fun q s=>sD n q s) (bU.trans (u2:=fun q=>σ.used q=true) (fun _ h=>h) K1 (bU.insert H1 IA (fun _ _=>rfl))) Hn r.fr;have vU:v.oneCell'=true:=(by rcases T with⟨_,h,_⟩|⟨_,_,h,_⟩<;>rw[h]<;>rfl);have rV:RC w ⟨G.Im,aN G.g n p⟩ (aN (aN σ.h d none) n (some (.row true m sz (xs.drop l.toNat)))) (.sl n sz 0 (xs.length - l.toNat)) v:=fun _=>(by simpa[dd] using T);exact sE (v:=v) (w':=w) u ⟨rfl,⟨v,rfl⟩,p,r'.put (RA.iB vU rV) (fun q s=>by have gB:q=n:=s;subst gB;exact dd _ _ _) (fun q s=>by rw[hd] at s;injection s with s;omega),D,fun h=>⟨(A h).2.1,(A h).1⟩⟩
theorem R.xG (r:R B E w0 N σ a w G) {s:Nat} {x:aw} (hv:RA w G σ.h x (a.tmps.getD s undef)) (hr:∀m,x.ref m->σ.used m=true):R B E w0 N {σ with env:=aN σ.env s x} a w G:=by refine⟨r.defers,r.size,fun q=>?_,fun q m hm=>?_,r.hr,r.fr,r.qg,r.Aw⟩;show RA w G σ.h (aN σ.env s x q) _;by_cases b:q=s;simp_all [dd];rw[dP _ _ _ _ b];exact r.env q;have c:(aN σ.env s x q).ref m:=hm;by_cases b:q=s;simp_all [dd];rw[dP _ _ _ _ b] at c;exact r.tP q m c
theorem jD.eq0 {p:PB} {sz len:Nat} {v a:Value} (g:jD p sz 0 len v) (d:jD p sz 0 len a):v=a:=by rcases g with⟨h,e,_,_⟩|⟨h,b,e,_,a3⟩;rcases d with⟨_,f,_,_⟩|⟨c,_⟩;rw[e,f];simp_all;rcases d with⟨c,_⟩|⟨c,b',f,_,b3⟩;simp_all;simp_all
theorem R.ao2 (r:R B E w0 N σ a w G) {q sz cap:Nat} {o:Option Addr} {d:List (List PC)} (t:σ.used q=false) (L:AQ B E w G σ.h (.list sz o cap d)) (lc:gU (d.map fun e=>e.map PC.er)=true) (A:0<sz):
  ∃G',R B E w0 N {σ with h:=aN σ.h q (some (.row false .bi sz (d.map fun e=>e.map PC.er))),used:=aN σ.used q true} a w G'/\
   RC w G' (aN σ.h q (some (.row false .bi sz (d.map fun e=>e.map PC.er)))) (.sl q sz 0 d.length) (PC.val (.list sz o cap d)):=by
 have H:=r.hr;have s:=AA lc;have W:me d:=by cases L.sep with|list _ _ _ _ Z h2 V=>exact⟨Z,V⟩
 have F:∀D:Gh,Hd B E w D d .bi:=fun D=>⟨fun b f=>absurd f (s b),W⟩;by_cases I:d=[]
 ·subst I;refine⟨⟨G.Im,aN G.g q ⟨true,0,0,cap,[],o⟩⟩,r.step rfl (fun m hm=>sD q m hm) (bU.insert H t (fun _ _=>rfl)) ?_ r.fr,fun _=>.inl ?_⟩
  ·exact H.insert (w':=w) (p:=⟨true,0,0,cap,[],o⟩) t (fun _ _=>rfl) (zad _) (fun h=>by cases h) (fun cs c m f=>by cases f) ⟨A,rfl,fun _=>⟨rfl,fun h=>by cases h⟩,(fun h=>by cases h),(fun h=>by cases h),F _,fun h=>by cases h⟩
    (fun l m sz xs _ _ X S m' x y _ _ b f=>absurd f (s b)) (fun l sz xs _ b f=>absurd f (s b)) (fun l m sz xs _ _ i pc b v=>by simp at v)
  ·simp[dd,PC.val]
 ·obtain⟨b,j,rfl⟩:∃b j,o=some (ad b j):=by
   cases L.fm with
   |nil _ _ _ _=>simp_all
   |cons _ b j _ _ _ _ _ _ _ _=>grind
  have z:bB b (.list sz (some (ad b j)) cap d):=.here _ _ _ _ I;obtain⟨o1,C,T⟩:=L.own b z;have K:rI w b j sz d/\d.length<=cap:=by
   have J:=L.fm;generalize kc:PC.list sz (some (ad b j)) cap d=p at J;cases J with
   |int k n=>cases kc
   |bool b=>cases kc
   |nil _ _ _ _=>simp_all
   |cons _ b' Y0 _ _ q1 P q3 O q5 U=>
    injection kc with Y u f3 f4;injection u with u;obtain⟨rfl,rfl⟩:=pn u;subst Y f3 f4;exact⟨⟨O,q5,U⟩,P⟩
  refine⟨⟨G.Im,aN G.g q ⟨false,b,j,cap,d,none⟩⟩,r.step rfl (fun m hm=>sD q m hm) (bU.insert H t (fun _ _=>rfl)) ?_ r.fr,fun _=>.inr ?_⟩
  ·exact H.insert (w':=w) (p:=⟨false,b,j,cap,d,none⟩) t (fun _ _=>rfl) (zad _) (fun _=>⟨⟨o1,fun m hm hl Q=>L.name b z m hm hl Q.symm,fun m l M x y hm=>L.row b z m l M x y hm⟩,T,C.lt⟩) (fun cs c m f=>by cases f)
    ⟨A,rfl,(fun h=>by cases h),fun _=>⟨C,K.1,K.2⟩,(fun _ h=>by cases h),F _,fun h=>by cases h⟩
    (fun l m sz xs _ _ X S m' x y _ _ b f=>absurd f (s b)) (fun l sz xs _ b f=>absurd f (s b)) (fun l m sz xs _ _ i pc b v=>by simp at v)
  simp_all [dd,PC.val]
theorem alV (r:R B E w0 N σ a w G) {n:Nat} {t e:TypeId} {x:Operand} {mx:MO} {i:TypeInfo} {z:Value} {sz:Nat} {ag:Bool} {cs:List ao} {F:List C} {σ1 σ2:St} (ho:o.op=.buildSlice t 1 #[(0,x)]) (hd:o.dst=some n) (hN:n<N) (ht:P.underlying t=some (.slice e)) (U:P.info? e=some i) (hz:i.zero=some z) (dn:i.size=sz) (W:0<sz) (Io:sz<=16777216) (hm:cX x mx=true) (iS:(σ.ev mx).cells?=some (ag,cs)) (hl:cs.length=sz) (pA:σ.xJ cs=some (F,true,σ1)) (hx:σ1.ins n (.row true .live sz [F])=some σ2): o.wp P a w (Nx B E w0 N (σ2.put o.dst (.one (.sl n sz 0 1)))) Q:=by obtain⟨hn,rfl⟩:=oR hx;obtain⟨x1,x2⟩:=r.ev hm;have L:=x1.cells iS;obtain⟨l,a1,a2,s,a4,a5,K,K1,a7,a8,a9,_⟩:=HR.xJ r.hr pA L (fun c hc m hm=>x2 m (aw.CY iS hc hm));have ij:l.length=sz:=(by have:=congrArg zar a2;simp only[AI] at this;rw[this,L.1,hl]);have Y:(a.eval x).cells.size=sz:=(by rw[<-Array.length_toList,L.1,hl]);have cG:=ahv (P:=P) (w:=w) ho ht U hz dn W Io Y;have hB:=r.fr.size;have v:=UE w (.cells (a.eval x).cells e);have A:∀k j c,At [l] k j c->k=0/\l[j]? =some c:=(by rintro k j c ⟨e1,H,J⟩;cases k with|zero=>grind|succ k=>simp at H);have O:∀b,bK b [l]->∃pc∈l,bB b pc:=(by rintro b ⟨k,j,c,f,d⟩;exact⟨c,wt (A k j c f).2,d⟩);have D:σ1.used n=false:=hn;have Hn:HR B E (w.alloc (.cells (a.eval x).cells e)) ⟨G.Im,aN G.g n ⟨false,w.heap.size,0,1,[l],none⟩⟩ (aN σ1.h n (some (.row true .live sz [F]))) (aN σ1.used n true) []:=(by refine K.insert (p:=⟨false,w.heap.size,0,1,[l],none⟩) D v (by simp) (fun _=>⟨K.QR,.inl hB,by simp⟩) (fun cs c m d=>by cases d) ?_ ?_ ?_ (fun V m sz xs _ _ i pc b U=>by simp at U);refine⟨W,by simp[a1],(fun hl=>by cases hl),fun _=>⟨fB.alloc _ _ _,⟨fun e H=>by grind,fun k j c f=>?_,fun k j c f=>?_⟩,by simp⟩,fun _ _=>⟨by simp only[maxLen];omega,(a.eval x).cells,e,heap_alloc_new w _,by simp[Y]⟩,⟨fun b d=>?_,fun k j c f=>?_,fun k j c k' j' c' b f cM bm d=>?_⟩,fun _ _ k c f=>?_⟩;obtain⟨rfl,J⟩:=A k j c f;simp only[zaZ,za4];unfold ad;rw[World.cell?_alloc_new];have:(a.eval x).cells.toList[j]? =some c.val:=(by rw[<-a2,GB,J];rfl);grind;have Z:=(s c (wt (A k j c f).2)).fm;exact Z.congr fun b d o=>kv (v b (Z.lt d)) o;obtain⟨pc,y,u⟩:=O b d;obtain⟨q1,X,q3⟩:=(s pc y).own b u;exact⟨q1,X.congr (v b X.lt),q3⟩;exact(s c (wt (A k j c f).2)).sep;grind;obtain⟨rfl,J⟩:=A k _ c f;have sV:=a5 rfl c (by grind);exact sV.cz fun b d arr e' H=>⟨arr,(v b ((s c (wt J)).own b d).2.1.lt).trans H,rfl⟩;intro V m' bf aM d kL M cq nA mC ko T kM b S;obtain⟨pc,y,u⟩:=O b S;exact(s pc y).row b u M cq nA mC ko T;intro V bf aM d b S;obtain⟨pc,y,u⟩:=O b S;refine⟨fun _=>?_,fun M T hl=>(s pc y).name b u M T hl⟩;have:=((s pc y).own b u).2.1.lt;grind);have r':R B E w0 N {σ1 with h:=aN σ1.h n (some (.row true .live sz [F])),used:=aN σ1.used n true} a (w.alloc (.cells (a.eval x).cells e)) ⟨G.Im,aN G.g n ⟨false,w.heap.size,0,1,[l],none⟩⟩:= r.step a7 (fun q I=>sD n q (by grind)) (bU.trans (u2:=fun q=>σ1.used q=true) (fun q I=>by grind) K1 (bU.insert K D v)) Hn (r.fr.grow v (by simp) rfl rfl rfl);have rV:RC (w.alloc (.cells (a.eval x).cells e)) ⟨G.Im,aN G.g n ⟨false,w.heap.size,0,1,[l],none⟩⟩ (aN σ1.h n (some (.row true .live sz [F]))) (.sl n sz 0 1) (.slice (some (ad w.heap.size 0)) 1 1):= fun _=>Or.inr ⟨by simp[dd],some (ad w.heap.size 0),by simp[dd],by simp[dd],by simp[dd]⟩;exact sE cG ⟨_,r'.put (RA.iB rfl rV) (fun q I=>by have gB:q=n:=I;subst gB;exact dd _ _ _) (fun q I=>by grind)⟩
theorem alW (r:R B E w0 N σ a w G) {n s q sz len:Nat} {t e:TypeId} {x:Operand} {mx:MO} {i:TypeInfo} {z:Value} {y:C} {σ1 σ2:St} (T:o.op=.buildSlice t 1 #[(0,x)]) (hd:o.dst=some n) (hN:n<N) (ht:P.underlying t=some (.slice e)) (hi:P.info? e=some i) (U:i.zero=some z) (Y:i.size=1) (hm:cX x mx=true) (hx:σ.ev mx=.one (.sl q sz 0 len)) (hs:σ.env s=.one (.sl q sz 0 len)) (hsn:s≠n) (u:σ.ir (.sl q sz 0 len)=some (y,true,σ1)) (Fe:σ1.ins n (.row true .bi 1 [[y]])=some σ2): o.wp P a w (Nx B E w0 N {(σ2.put o.dst (.one (.sl n 1 0 1))) with env:=aN (σ2.put o.dst (.one (.sl n 1 0 1))).env s (.one (.c y))}) Q:=by obtain⟨hn,rfl⟩:=oR Fe;obtain⟨f,x2⟩:=r.ev hm;rw[hx] at f;have f:=f.il (by simp);have p:=r.env s;rw[hs] at p;have p:=(p.il (by simp)).1;obtain⟨Im',pc,L,H,a3,Z,A,S,W,K,a9⟩:=r.hr.ir u f.1;simp only[if_true,List.nil_append] at A;have I:σ.h q≠none:=(by intro hh;simp only[St.ir,hh] at u;cases u);have V:a.tmps.getD s undef=a.eval x:=jD.eq0 (p I) (f.1 I);have l:=f.2;have w5:(a.eval x).cells=#[pc.val]:=(by rw[H];revert l;cases a.eval x<;>intro l<;>first|rfl|(simp[Value.oneCell'] at l));have cG:=ahv (P:=P) (w:=w) T ht hi U Y (by omega) (by omega) (by rw[w5];rfl);have H0:HR B E w ⟨Im',G.g⟩ σ1.h σ.used []:=(by have X:HR B E w ⟨Im',G.g⟩ σ1.h σ.used ([]++[pc]):=(by simpa using A);exact X.Ef);have dT:∀k j c,At [[pc]] k j c->k=0/\j=0/\c=pc:=(by rintro k j c ⟨e1,v,hj⟩;cases k with|zero=>grind|succ k=>simp at v);obtain⟨G',F,J,M⟩:=r.newRow (m:=.bi) (sz:=1) (cap:=1) (pes:=[[pc]]) (arr:=(a.eval x).cells) (e:=e) H0 S W K (by rw[<-K];exact hn) (by omega) (fun e v=>by grind) (fun k j c b=>by grind) (fun k j c b=>by grind) (by simp) (by simp only[maxLen];omega) (by grind) (.inr (HR.agu (sz:=1) (by omega) (fun e v=>by grind) (by simpa using A))) (fun h=>by cases h);simp only[By,zaQ,L,zaN,List.length_nil] at F J M;have r2:=F.put J (d:=o.dst) (fun k b=>by have O:k=n:=b;subst O;exact dd _ _ _) (fun k b=>by grind);have D:RA w ⟨Im',G.g⟩ σ1.h (.one (.c y)) (a.eval x):=RA.iB l ⟨pc,L,H,a3,Z⟩;have E6:=D.d9 M (fun k b=>absurd b uS);refine sE cG ⟨G',r2.xG (s:=s) ?_ (fun k b=>absurd b uS)⟩;rw[hd,Rp (by grind),V];exact E6
theorem amp (r:R B E w0 N σ a w G) {n d s q sz s0 l0:Nat} {t e:TypeId} {i:TypeInfo} {x y:Operand} {mx my:MO} {xs ys:List (List C)} {σ1 σ2:St} (ho:o.op=.slice t x (some y) none none) (hd:o.dst=some n) (hN:n<N)
  (iL:cX x mx=true) (iM:cX y my=true) (ht:P.underlying t=some (.slice e)) (hi:P.info? e=some i) (dn:i.size=1)
  (hx:σ.ev mx=.one (.sl d 1 0 xs.length)) (hl:(σ.ev my).fW=some 1) (hn:σ.h d=some (.row true .live 1 xs)) (hs:σ.env s=.one (.cF d 0 1 0 s0 l0)) (hsn:s≠n)
  (Fx:xs[0]? =some [.list sz ys]) (lc:gU ys=true) (T:(σ.del d).ins n (.row true .live 1 (xs.drop 1))=some σ1) (Fe:σ1.ins q (.row false .bi sz ys)=some σ2):
  o.wp P a w (Nx B E w0 N {(σ2.put o.dst (.one (.sl n 1 0 (xs.length - 1)))) with env:=aN (σ2.put o.dst (.one (.sl n 1 0 (xs.length - 1)))).env s (.one (.sl q sz 0 ys.length))}) Q:=by
 have H:=r.hr;have cQ:σ.h d≠none:=by rw[hn];simp
 have hr:=H.row d true .live 1 xs hn;have Z:=r.env s;rw[hs] at Z;obtain⟨pc,p1,p2,p3⟩:=(Z.il (by simp)).1 true xs hn;obtain⟨bq,W,f⟩:=H.NJ hn p1;rw[Fx] at f;have f:some (C.list sz ys)=some pc.er:=f;injection f with f;have l:=H.age hn (by omega) p1;have WW:0<xs.length:=(If.1 Fx).1;refine Oper.wp_mono (fun a' w' ⟨e1,⟨v,X⟩,p,F,iO,sW⟩=>?_) (amt (P:=P) (Q:=Q) r ho hd hN iL iM ht hi dn (by omega) hx hl (by omega) (by omega) hn T);subst e1;obtain⟨IA,rfl⟩:=oR T;obtain⟨M,rfl⟩:=oR Fe;cases pc with
 |int kk nn=>simp[PC.er] at f
 |bool bb=>simp[PC.er] at f
 |list bf x0 cap I=>
 rw[PC.fk] at f;injection f with g1 g2;subst g1;have jh:0<sz:=by cases W with|nil _ _ _ h=>exact h|cons _ _ _ _ _ _ _ h _ _ _=>exact h
 have U:∀m,aN (σ.del d).h n (some (.row true .live 1 (xs.drop 1))) m≠none->m=n\/(m≠n/\m≠d/\σ.h m≠none):=by
  intro m hm;by_cases di:m=n
  ·omega
  ·rw[dP _ _ _ _ di] at hm;obtain⟨u,K⟩:=Bh (h:=σ.h) hm
   grind
 have L:AQ B E w' ⟨G.Im,aN G.g n p⟩ (aN (σ.del d).h n (some (.row true .live 1 (xs.drop 1)))) (.list sz x0 cap I):=by
  refine⟨W,l.sep,l.own,fun b z m hm D=>?_,fun b z m gr mo mC ko hm A=>?_⟩
  ·rcases U m hm with rfl|⟨u,K,V⟩
   ·simp only[dd] at D⊢;obtain⟨e3,e4⟩:=sW D;rw[e3];exact l.name b z d cQ e4
   ·simp only[dP _ _ _ _ u] at D⊢;exact l.name b z m V D
  ·have O:aN (σ.del d).h n (some (.row true .live 1 (xs.drop 1))) m≠none:=by rw[hm];simp
   rcases U m O with rfl|⟨u,K,V⟩
   ·simp only[dd] at A;rw[iO] at A;obtain⟨k,j,c,S,hc⟩:=A;have J:=CR S;refine l.rest b z _ _ c J (fun e=>?_) hc
    grind
   ·simp only[dP _ _ _ _ u] at A;rw[dP _ _ _ _ u] at hm;exact l.row b z m gr mo mC ko K (rL (h:=σ.h) hm).1 A
 have Fs:gU (I.map fun e=>e.map PC.er)=true:=by rw[<-g2];exact lc
 have h1:(1:Int).toNat=1:=rfl;rw[h1] at F;rw[hd] at F X⊢;obtain⟨G',Y,rV⟩:=F.ao2 (q:=q) M L Fs jh;rw[<-g2] at Y rV;have yz:ys.length=I.length:=by rw[g2];simp
 refine⟨G',?_⟩;have r4:=Y.xG (s:=s) (x:=.one (.sl q sz 0 ys.length)) (by
  rw[X,Rp (by grind),<-p2];rw[yz];exact RA.iB rfl rV) (fun k S=>by have J:k=q:=S;subst J;exact dd _ _ _)
 exact r4
theorem HR.aoW (H:HR B E w G h used []) {n sz cap:Nat} {x:Option Addr} {xs:List (List PC)} (W:Good w (.list sz x cap xs)) (Y:Sep (.list sz x cap xs)) (ht:Hi w (.list sz x cap xs)) (sV:t8 w sz xs)
  (hl:∀b,m8 b (.list sz x cap xs)->sG G h b/\fB w b/\B<=b) (hn:used n=false):
  ∃G',HR B E w G' (aN h n (some (.row true .live sz (xs.map fun e=>e.map PC.er)))) (aN used n true) []/\
   bU w G h (fun n=>used n=true) w G' (aN h n (some (.row true .live sz (xs.map fun e=>e.map PC.er))))/\
   RC w G' (aN h n (some (.row true .live sz (xs.map fun e=>e.map PC.er)))) (.sl n sz 0 xs.length) (PC.val (.list sz x cap xs)):=by
 obtain⟨S,j9,O⟩:=ht;have l:∀b,bK b xs->bB b (.list sz x cap xs):=fun b ⟨k,j,c,g,m⟩=>.there _ _ _ _ k j c g m;have R:me xs:=by cases Y with|list _ _ _ _ g m C=>exact⟨g,C⟩
 obtain⟨p,P,iO,r,v,Q⟩:∃p:PB,(p.nl=true->xs=[]/\(true=true->p.cap=0))/\p.px=xs/\
   (p.nl=false->sG G h p.b/\fB w p.b/\B<=p.b/\∀b,bK b xs->b≠p.b)/\
   (p.nl=false->rI w p.b p.o sz xs/\xs.length<=p.cap/\Ld w p sz)/\jD p sz 0 xs.length (PC.val (.list sz x cap xs)):=by
  by_cases t:cap=0
  ·subst t;have hx:xs=[]:=IT (by omega);subst hx;exact⟨⟨true,0,0,0,[],x⟩,fun _=>⟨rfl,fun _=>rfl⟩,rfl,(fun a=>by cases a),(fun a=>by cases a),.inl ⟨rfl,rfl,rfl,rfl⟩⟩
  ·obtain⟨b,o,cur,e,rfl,hh,U,Z,dD⟩:=O.resolve_left t;have hT:m8 b (.list sz (some (ad b o)) cap xs):=.inr ⟨_,_,_,_,rfl,t⟩;obtain⟨l1,l2,K⟩:=hl b hT;have T:∀u,bK u xs->u≠b:=fun u ⟨k,j,c,g,m⟩ f=>dD k j c g (f▸m);refine⟨⟨false,b,o,cap,xs,none⟩,(fun a=>by cases a),rfl,fun _=>⟨l1,l2,K,T⟩,fun _=>⟨?_,j9,Z,cur,e,hh,U⟩,.inr ⟨rfl,some (ad b o),by simp[PC.val],by grind,fun _=>by simp⟩⟩;cases W with
   |nil _ _ _ _=>exact⟨by simp,by rintro k j c ⟨e,f,_⟩;simp at f,by rintro k j c ⟨e,f,_⟩;simp at f⟩
   |cons _ _ _ _ _ g m C I L J=>exact⟨I,L,J⟩
 subst iO;have f9:zn B E w G true .live sz (p.px.map fun e=>e.map PC.er) p:=by
  refine⟨S,rfl,P,fun a=>⟨(r a).2.1,(v a).1,(v a).2.1⟩,fun a _=>(v a).2.2,?_,fun _ _=>sV⟩;exact⟨fun b d=>⟨(hl b (.inl (l b d))).1.1,(hl b (.inl (l b d))).2.1,.inl (hl b (.inl (l b d))).2.2⟩,R⟩
 have Hn:=H.insert (w':=w) (n:=n) (blk:=.row true .live sz (p.px.map fun e=>e.map PC.er)) (p:=p) hn (fun _ _=>rfl) (zad _)
  (fun a=>⟨(r a).1,.inl (r a).2.2.1,(r a).2.1.lt⟩) (fun cs c q d=>by cases d) (by exact f9)
  (fun A m' D F d hm y N nA X M z kM b s=>(hl b (.inl (l b s))).1.2.2 y N nA X M z)
  (fun A D F d b s=>⟨fun a=>(r a).2.2.2 b s,fun y z kw f=>(hl b (.inl (l b s))).1.2.1 y z kw f.symm⟩)
  (fun A m' D F d hm i pc b V=>by simp at V)
 exact⟨_,Hn,bU.insert H hn (fun _ _=>rfl),fun _=>by simpa[dd] using Q⟩
theorem ama (r:R B E w0 N σ a w G) (V:OT P T) {d:Nat} {f:FuncId} {as:List aw} {vals:List Value} {σ1:St} (hd:o.dst=some d) (hN:d<N) (cG:(execOp a.eval o).run P w=.ok (.enter f vals.toArray) w) (hl:vals.length=as.length) (F:∀(j:Nat) (x:aw) (v:Value),as[j]? =some x->vals[j]? =some v->RA w G σ.h x v) (hx:LJ T d f as σ=some σ1):o.wp P a w (Nx B E w0 N σ1) Q:=by unfold LJ at hx;split at hx;rename_i ds M D Z;split at hx;rename_i sz xs I;split at hx;rename_i σ2 p;injection hx with hx;subst hx;generalize nT (some d)=nm at p⊢;obtain⟨L,rfl⟩:=oR p;have H:=r.hr.qk D hl F;unfold Oper.wp;rw[cG];refine(V f M Z ds _ I w vals H).mono fun e w' ⟨bf,cap,x0,px,p1,s,p4,i,U⟩=>?_;subst s;rw[PC.fk] at p1;injection p1 with p1 _;injection p1 with _ p1;injection p1 with p1 _;injection p1 with t q2;subst t;have l:∀b,b<w.heap.size->w'.heap[b]? =w.heap[b]? :=fun b g=>i.block b g id;have W:=r.hr.grow l i.size;obtain⟨z,J,u⟩:=p4.fm _ (zaF.2 rfl);obtain⟨G',k,m,X⟩:=W.aoW (n:=nm) z J u U (fun b g=>by obtain⟨S,A⟩:=p4.new _ (zaF.2 rfl) b g;refine⟨⟨fun O=>?_,fun q c y he=>?_,fun q gr mo sz xs c C=>?_⟩,A,Nat.le_trans r.fr.size S⟩;have:=r.hr.jG b O;omega;have:=(r.hr.own q c y).2.2;omega;have:=r.hr.tK c C;omega) L;rw[<-q2] at k m X;have tc:xs.length=px.length:=(by rw[q2];simp);have K:bU w G σ.h (fun n=>σ.used n=true) w' G' (aN σ.h (nm) (some (.row true .live sz xs))):=bU.trans (fun _ h=>h) (bU.world (fun b g=>l b (r.hr.jG b g)) _) m;have r2:R B E w0 N {σ with h:=aN σ.h (nm) (some (.row true .live sz xs)),used:=aN σ.used (nm) true} a w' G':=r.step rfl (fun q c=>sD _ q c) K k (r.fr.call i);refine⟨G',?_⟩;rw[hd];exact r2.put (RA.iB rfl (by grind)) (fun q c=>by have Y:q=nm:=c;subst Y;exact dd _ _ _) (fun q c=>by grind);cases hx;cases hx;cases hx
def O6 (P:Program) (t:TypeId) (len:Nat) (parts:Array (Nat×Operand)) (sz:Nat) (p:MO):Bool:=
 (len==1)&&decide (sz<=16777216)&&vA P t sz (fun _ _=>true)&&(match parts.toList with
  |[(0,x)]=>cX x p
  |_=>false)
def U8 (P:Program) (N:Nat) (o:Oper) (d:Nat) (c:KJ):Bool:=
 decide (o.dst=some d)&&decide (d<N)&&(match o.guard with|none=>true|some _=>false)&&
 (match c,o.op with
  |.A6 sz p,.buildSlice t len parts=>O6 P t len parts sz p
  |.CV p _,.buildSlice t len parts=>O6 P t len parts 1 p
  |.pop x lo _,.slice t x' (some y) none none=>cX x' x&&cX y lo&&vA P t 1 (fun _ _=>true)
  |.A7 f ms,.call c=>match c.callee with
   |.value (.func g)=>(f==g)&&cB P f&&mn c.args.toList ms
   |_=>false
  |_,_=>false)
def C1 (P:Program) (N:Nat) (aR:Array Oper):List Oper->List KI->Bool
 |[],[]=>true
 |o::os,.op m::l=>x9 P N aR o m&&C1 P N aR os l
 |o::os,.vB d c::l=>U8 P N o d c&&C1 P N aR os l
 |_,_=>false
theorem abV {t:TypeId} {len:Nat} {parts:Array (Nat×Operand)} {sz:Nat} {p:MO} (h:O6 P t len parts sz p=true): ∃x,len=1/\parts=#[(0,x)]/\cX x p=true/\sz<=16777216/\∃e i z,P.underlying t=some (.slice e)/\P.info? e=some i/\i.zero=some z/\i.size=sz/\0<sz:=by simp only[O6,BY,beq_iff_eq,decide_eq_true_eq] at h;obtain⟨⟨⟨h1,h2⟩,b⟩,a⟩:=h;split at a;rename_i x hp;obtain⟨e,i,z,g1,g2,g3,g4,g5,_⟩:=wQ b;grind;cases a
theorem al5 (r:R B E w0 N σ a w G) (Ii:OT P T) {d:Nat} {c:KJ} (X:U8 P N o d c=true) (hx:x8 T d c σ=some σ'):o.guard=none/\o.wp P a w (Nx B E w0 N σ') Q:=by
 simp only[U8,BY,decide_eq_true_eq] at X;obtain⟨⟨⟨c1,F⟩,Y⟩,b⟩:=X;have h:o.guard=none:=by cases h:o.guard with|none=>rfl|some g=>rw[h] at Y;cases Y
 refine⟨h,?_⟩;have Xa:∀v,Nx B E w0 N (σ'.put none v)=Nx B E w0 N σ':=fun _=>rfl;obtain⟨dst,op,ty,pos,after,guard⟩:=o;simp only at c1 h;subst c1 h;cases c with
 |A6 sz p=>
  cases op<;>simp only at b<;>first|cases b|skip
  rename_i t len parts;obtain⟨x,rfl,rfl,m,W,e,i,z,u,A,H,C,J⟩:=abV b;simp only[x8] at hx;split at hx
  ·rename_i ag cs iS;split at hx
   ·rename_i hl;split at hx
    ·rename_i es σ1 U;split at hx
     ·rename_i σ2 V;injection hx with hx;subst hx;exact alV r rfl rfl F u A H C J W m iS hl U V
     ·cases hx
    ·cases hx
   ·cases hx
  ·cases hx
 |CV p s=>
  cases op<;>simp only at b<;>first|cases b|skip
  rename_i t len parts;obtain⟨x,rfl,rfl,m,W,e,i,z,u,A,H,C,J⟩:=abV b;simp only[x8] at hx;split at hx
  ·rename_i q sz lo len q' bf Z xt O S;split at hx
   ·rename_i L;obtain⟨rfl,rfl,rfl,K,rfl,rfl⟩:=L;split at hx
    ·rename_i y σ1 U;split at hx
     ·rename_i σ2 V;injection hx with hx;subst hx;exact alW r rfl rfl F u A H C m O S K U V
     ·cases hx
    ·cases hx
   ·cases hx
  ·cases hx
 |pop x lo s=>
  cases op<;>simp only at b<;>first|cases b|skip
  rename_i t x' Z hi' oJ;cases Z with
  |none=>cases b
  |some y=>
  cases hi' with
  |some _=>cases b
  |none=>
  cases oJ with
  |some _=>cases b
  |none=>
  simp only[BY] at b;obtain⟨⟨k1,M⟩,m⟩:=b;obtain⟨e,i,z,u,A,H,C,J,_⟩:=wQ m;simp only[x8] at hx;split at hx
  ·rename_i n s1 l1 len l n' k rs off s0 l0 O S e3;split at hx
   ·rename_i L;obtain⟨rfl,rfl,rfl,rfl,rfl,rfl,rfl,K⟩:=L;split at hx
    ·rename_i N4 xs hn;split at hx
     ·rename_i iw;obtain⟨rfl,rfl⟩:=iw;split at hx
      ·rename_i sz ys Fx;split at hx
       ·rename_i lc;split at hx
        ·rename_i σ1 Di;split at hx
         ·rename_i σ2 Fe;injection hx with hx;subst hx;exact amp r rfl rfl F k1 M u A C O S hn e3 K Fx lc Di Fe
         ·cases hx
        ·cases hx
       ·cases hx
      ·cases hx
     ·cases hx
    ·cases hx
   ·cases hx
  ·cases hx
 |A7 f ms=>
  cases op<;>simp only at b<;>first|cases b|skip
  rename_i c;split at b
  ·rename_i g h;simp only[BY,beq_iff_eq] at b;obtain⟨⟨rfl,M⟩,m⟩:=b;simp only[x8] at hx;obtain⟨m1,m2⟩:=O8 m;refine ama (vals:=c.args.toList.map a.eval) r Ii rfl F ?_ ?_ ?_ hx
   ·obtain⟨callee,args,argTypes⟩:=c;simp only at h;subst h;simp[execOp,resolve,Deferred.ofValue,invoke,Act.eval,JU M]
    grind
   ·simp_all
   ·intro j x v I D;rw[GB] at I D;cases hm:ms[j]? with
    |none=>simp_all
    |some mm=>
     cases ha:c.args.toList[j]? with
     |none=>simp_all
     |some xx=>
      rw[hm] at I;rw[ha] at D;simp at I D;subst I;subst D;exact(r.ev (m2 j xx mm ha hm)).1
  ·cases b
theorem S4 (f:pQ P T) (e:OT P T):∀{l:List Oper} {b:List KI} {σ σ':St} {a:Act} {w:World} {G:Gh},C1 P N aR l b=true->zu T b σ=some σ'->R B E w0 N σ a w G-> (∀a w G,R B E w0 N σ' a w G->Q .normal a w)->wpList P aR Q l a w
 |[],[],σ,σ',a,w,G,hc,hx,r,hQ=>by simp only[zu] at hx;injection hx with hx;subst hx;exact hQ _ _ _ r
 |o::l,.op m::b,σ,σ',a,w,G,hc,hx,r,hQ=>by simp only[C1,BY] at hc;simp only[zu] at hx;split at hx;rename_i σ1 i;unfold wpList;rcases HW (Q:=Q) r f hc.1 i with⟨j,h⟩|⟨j,G',h⟩;rw[ai j];exact .inl (Oper.wp_mono (fun n w' ⟨G',g⟩=>S4 f e hc.2 hx g hQ) h);rw[aq (by simp[j])];exact S4 f e hc.2 hx h hQ;cases hx
 |o::l,.vB d c::b,σ,σ',a,w,G,hc,hx,r,hQ=>by simp only[C1,BY] at hc;simp only[zu] at hx;split at hx;rename_i σ1 i;obtain⟨k,p⟩:=al5 (Q:=Q) r e hc.1 i;unfold wpList;rw[ai (by simp[Region.wanted,k])];exact .inl (Oper.wp_mono (fun n w' ⟨G',g⟩=>S4 f e hc.2 hx g hQ) p);cases hx
 |[],_::_,_,_,_,_,_,hc,_,_,_=>by simp[C1] at hc
 |_::_,[],_,_,_,_,_,hc,_,_,_=>by simp[C1] at hc
theorem R.atH (r:R B E w0 N σ a w G) {n j:Nat} {cs:List ao} {y:ao} (hn:σ.h n=some (.box cs)) (hy:∀v,w.cell? (ad (G.g n).b ((G.g n).o+j))=some v->RC w G σ.h y v) (s:∀m,y.ref m->σ.used m=true): R B E w0 N (σ.fQ n (.box (cs.set j y))) a w G:=by have H:=r.hr;have l:σ.h n≠none:=(by rw[hn];simp);obtain⟨F,J,z⟩:=H.box n cs hn;have x:aN G.g n (G.g n)=G.g:=OE _ _;have K:bU w G σ.h (fun n=>σ.used n=true) w ⟨G.Im,aN G.g n (G.g n)⟩ (aN σ.h n (some (.box (cs.set j y)))):=(by rw[x];refine⟨fun _ h=>h,fun _ _ _=>rfl,fun m _ hm=>⟨?_,rfl,rfl,rfl,rfl,rfl⟩,fun m f sz xs _ hm=>?_⟩;by_cases k:m=n;simp_all;rwa[dP _ _ _ _ k] at hm;by_cases k:m=n;simp_all [dd];rw[dP _ _ _ _ k] at hm;grind);have A:=H.put (w':=w) (used':=σ.used) (n:=n) (blk:=.box (cs.set j y)) (p:=G.g n) (fun _ _ _=>rfl) (zad _) (fun _ _ h=>h) (fun _ h=>h) (H.mM n l) (fun hl=>H.own n l hl) (fun hl m k hm C=>H.inj m n hm l k C hl) (fun hl m f sz xs k hm b d=>H.live m f sz xs hm b d n l hl) (fun cs' c m d t hr=>by injection d with d;subst d;rcases List.mem_or_eq_of_mem_set t with t|rfl;exact H.lz n cs c m hn t hr;simp_all) K (by refine⟨F,J,fun i c e=>?_⟩;rw[List.getElem?_set] at e;split at e;rename_i I;subst I;split at e;rename_i D;injection e with e;subst e;obtain⟨v,q,v2,u⟩:=z j cs[j] (AN D);exact⟨v,q,v2,(hy v q).d9 K s⟩;cases e;obtain⟨v,q,v2,u⟩:=z i c e;exact⟨v,q,v2,u.d9 K fun m hm=>H.lz n cs c m hn (wt e) hm⟩) (fun f m sz xs d=>by cases d) (fun f sz xs d=>by cases d) (fun f m sz xs d=>by cases d) (fun hl _ b ⟨m,f,mo,sz,xs,_,hm,d⟩=>H.vI l hl hm d);rw[x] at K A;exact r.step rfl (fun _ h=>h) K A r.fr
theorem R.ph (r:R B E w0 N σ a w G) (c:Nat) (m:Mode):R B E w0 N (σ.ph c m) a w G:=by unfold St.ph;cases m with|live=>exact r|bi=>exact r|bh=>simp only;split;rename_i t s xs hn;have hg:(⟨G.Im,aN G.g c (G.g c)⟩:Gh)=G:=(by have:aN G.g c (G.g c)=G.g:=(by funext q;rw[mZ];split<;>simp[*]);rw[this]);have hr:=r.hr.row c t .bi s xs hn;have x:∀q b,aN σ.h c (some (.row t .bh s xs)) q=some b->q≠c->σ.h q=some b:=fun q b d M=>(by rwa[dP _ _ _ _ M] at d);have ne:∀q,aN σ.h c (some (.row t .bh s xs)) q≠none->σ.h q≠none:=fun q d=>(by by_cases l:q=c;simp_all;rwa[dP _ _ _ _ l] at d);have qj:∀q f n i k,aN σ.h c (some (.row t .bh s xs)) q=some (.row f n i k)->n≠ .bh->q≠c/\σ.h q=some (.row f n i k):=fun q f n i k d hm=>(by grind [dd]);have K:bU w G σ.h (fun q=>σ.used q=true) w G (aN σ.h c (some (.row t .bh s xs))):= ⟨fun _ h=>h,fun _ _ _=>rfl,fun q _ d=>⟨ne q d,rfl,rfl,rfl,rfl,rfl⟩,fun q f i k _ d=>by grind⟩;have H:=r.hr;have U:HR B E w G (aN σ.h c (some (.row t .bh s xs))) σ.used []:=(by refine⟨fun q d=>H.mM q (ne q d),fun q cs y p d=>?_,fun q cs d=>?_,fun q f n i k d=>?_,fun q d=>H.own q (ne q d),fun q o d u=>H.inj q o (ne q d) (ne o u),H.jG,H.uD, fun q o f n i k S m2 Q I d u hm A=>H.jE q o f n i k S m2 Q I (qj _ _ _ _ _ d hm).2 (qj _ _ _ _ _ u A).2 hm A, fun q f i k d b z o u=>H.live q f i k (qj _ _ _ _ _ d (by simp)).2 b z o (ne o u),(by grind),(by grind),(by grind)⟩;have l:q≠c:=fun e=>(by grind [dd]);exact H.lz q cs y p (x q _ d l);have l:q≠c:=fun e=>(by grind [dd]);obtain⟨P,D,T⟩:=H.box q cs (x q _ d l);refine⟨P,D,fun j y C=>?_⟩;obtain⟨v,L,v2,J⟩:=T j y C;exact⟨v,L,v2,J.d9 K fun p F=>H.lz q cs y p (x q _ d l) (wt C) F⟩;by_cases l:q=c;subst l;rw[dd] at d;injection d with d;injection d with O h2 h3 h4;subst O h2 h3 h4;exact⟨hr.pos,hr.er,hr.nl,hr.f6,hr.room,fun b z=>(hr.mode.1 b z).1,fun _ h=>by cases h⟩;exact H.row q f n i k (x q _ d l));exact r.step rfl (fun _ h=>h) K U r.fr;exact r
theorem R.N2 (r:R B E w0 N σ a w G) {x c:Nat} {m:Mode} (hx:(σ.cf x c).map (fun σ1=>σ1.ph c m)=some σ'):∃G',R B E w0 N σ' a w G':=by rw[zaP] at hx;obtain⟨σ1,e,rfl⟩:=hx;obtain⟨G',b⟩:=r.cf e;exact⟨G',b.ph c m⟩
theorem R.canon (r:R B E w0 N σ a w G) {x:Bool×Nat×Nat×Nat×Mode} (hx:σ.canon x=some σ'):∃G',R B E w0 N σ' a w G':=by obtain⟨b,n,j,c,m⟩:=x;have mW:some σ=some σ'->∃G',R B E w0 N σ' a w G':=fun h=>(by grind);cases b with|true=>simp only[St.canon] at hx;split at hx;rename_i cs hn;split at hx;exact r.N2 hx;rename_i sz l;split at hx;rename_i o;split at hx;rename_i σ1 e;injection hx with hx;subst hx;obtain⟨k,d,y⟩:=r.afa o e;obtain⟨H,rfl⟩:=oR e;have IA:σ.used n=true:=r.hr.mM n (by rw[hn];simp);have C:n≠c:=fun he=>(by grind);have u:(aN σ.h c (some (.row true m sz []))) n=some (.box cs):=(by rw[dP _ _ _ _ C];exact hn);refine⟨k,d.atH u (fun v f=>?_) (fun q p=>?_)⟩;obtain⟨F,D,v2,A⟩:=(d.hr.box n cs u).2.2 j _ l;rw[D] at f;injection f with f;subst f;have v3':F=.slice none 0 0:=A;grind;have t:q=c:=p;subst t;exact dd _ _ _;cases hx;simp_all;simp_all;simp_all|false=>simp only[St.canon] at hx;split at hx;exact r.N2 hx;rename_i sz l;split at hx;rename_i o;split at hx;rename_i σ1 e;injection hx with hx;subst hx;obtain⟨k,d,y⟩:=r.afa o e;obtain⟨H,rfl⟩:=oR e;have f:=d.env n;rw[show({σ with h:=aN σ.h c (some (.row true m sz [])),used:=aN σ.used c true}:St).env n=σ.env n from rfl,l] at f;have z:a.tmps.getD n undef=.slice none 0 0:=(f.il (by simp)).1;refine⟨k,d.defers,d.size,fun s=>?_,fun s q p=>?_,d.hr,d.fr,d.qg,d.Aw⟩;show RA w k _ (aN σ.env n _ s) _;by_cases g:s=n;subst g;rw[dd,z];exact RA.iB rfl y;rw[dP _ _ _ _ g];exact d.env s;have i:(aN σ.env n (.one (.sl c sz 0 0)) s).ref q:=p;by_cases g:s=n;subst g;rw[dd] at i;have t:q=c:=i;subst t;exact dd _ _ _;rw[dP _ _ _ _ g] at i;exact d.tP s q i;cases hx;simp_all;simp_all
theorem R.zq:∀{l:List (Bool×Nat×Nat×Nat×Mode)} {σ:St} {G:Gh},R B E w0 N σ a w G->σ.zq l=some σ'->∃G',R B E w0 N σ' a w G'
 |[],σ,G,r,hx=>by grind [St.zq]
 |x::l,σ,G,r,hx=>by simp only[St.zq] at hx;split at hx;rename_i σ1 e;obtain⟨G1,b⟩:=r.canon e;exact R.zq b hx;cases hx
theorem R.head (r:R B E w0 N σ a w G) {ke b:List Nat} {f:List (Bool×Nat×Nat×Nat×Mode)} (hx:σ.head ke b f=some σ'):∃G',R B E w0 N σ' a w G':=by unfold St.head at hx;split at hx;rename_i σ1 e;injection hx with hx;subst hx;obtain⟨d,c⟩:=((r.mU ke b).mU ke b).zq e;exact⟨d,c.mU ke b⟩;cases hx
def lF (P:Program) (N:Nat):Code->mH->Bool
 |c,.join _ _ _ mc=>lF P N c mc
 |.skip,.skip=>true
 |.region _ aR pU,.fz LK ms=>(pU==LK)&&nF P N aR aR.toList ms&&(!pU||EK [] aR.toList ms)
 |.region _ aR pU,.tH ps ms=>pU&&nF P N aR aR.toList ms&&EK ps aR.toList ms
 |.region _ aR pU,.Ay its=> !pU&&C1 P N aR aR.toList its
 |.region _ aR pU,.wy LK ps ms sp=>(pU==LK)&&(if LK=true then Va P N aR ps ms sp else Vb P N aR ms sp)
 |.seq x y,.seq mx my=>lF P N x mx&&lF P N y my
 |.cond c x y,.cond mc mx my=>cX c mc&&lF P N x mx&&lF P N y my
 |.block id c,.block XT mc=>(id==XT)&&lF P N c mc
 |.loop c,.loop _ _ _ _ mc=>lF P N c mc
 |.exit id,.exit XT=>id==XT
 |.ret,.ret=>true
 |_,_=>false
def ajT (B:Nat) (E:Ex) (w0:World) (N:Nat) (Q:Exit->Act->World->Prop):xT->Prop
 |.gT σ=>∀a w G,R B E w0 N σ a w G->Q .normal a w
 |.ext id σ=>∀a w G,R B E w0 N σ a w G->Q (.exit id) a w
 |.ret σ=>∀a w G,R B E w0 N σ a w G->Q .ret a w
theorem nI (d:pQ P T) (hm:P.follows .mixedOrders=true):∀(f:mH) {c:Code} {σ:St} {o:xT} {a:Act} {w:World} {G:Gh} {Q:Exit->Act->World->Prop}, lF P N c f=true->e9 T f σ=some o->R B E w0 N σ a w G->ajT B E w0 N Q o->c.wp P Q a w
 |.skip,c,σ,o,a,w,G,Q,b,hx,r,hQ=>by(cases c<;>simp only[lF] at b<;>first|cases b|skip);simp only[e9] at hx;injection hx with hx;subst hx;exact wp_skip (hQ _ _ _ r)
 |.fz u ms,c,σ,o,a,w,G,Q,b,hx,r,hQ=>by(cases c<;>simp only[lF] at b<;>first|cases b|skip);simp only[BY,Bool.or_eq_true,beq_iff_eq] at b;simp only[e9] at hx;split at hx;rename_i σ1 e;injection hx with hx;subst hx;exact atS d hm b.1.2 (fun hd=>b.2.resolve_left (by simp[hd])) e r hQ;cases hx
 |.tH ps ms,c,σ,o,a,w,G,Q,b,hx,r,hQ=>by(cases c<;>simp only[lF] at b<;>first|cases b|skip);simp only[BY] at b;obtain⟨⟨hd,h⟩,z⟩:=b;subst hd;simp only[e9] at hx;split at hx;rename_i q σ1 e;(cases hp:xA ps q with|true=>rw[hp] at hx;injection hx with hx;subst hx;exact ahl d hm h z e hp r hQ|false=>simp_all);cases hx
 |.Ay its,c,σ,o,a,w,G,Q,b,hx,r,hQ=>by(cases c<;>simp only[lF] at b<;>first|cases b|skip);simp only[BY,zax] at b;obtain⟨hd,h⟩:=b;subst hd;simp only[e9] at hx;split at hx;rename_i σ1 e;injection hx with hx;subst hx;exact wp_region_list (S4 d d.awp h e r hQ);cases hx
 |.wy LK ps ms sp,c,σ,o,a,w,G,Q,b,hx,r,hQ=>by(cases c<;>simp only[lF] at b<;>first|cases b|skip);simp only[BY,beq_iff_eq] at b;obtain⟨hd,h⟩:=b;subst hd;rename_i u;cases u with|false=>simp only[Pe,if_false] at h;simp only[e9] at hx;split at hx;rename_i σ1 e;split at hx;rename_i σ2 m;injection hx with hx;subst hx;exact atQ d h e m r hQ;cases hx;cases hx|true=>simp only[if_true] at h;simp only[e9] at hx;split at hx;rename_i q σ1 e;split at hx;rename_i σ2 m;(cases hp:xA ps q with|true=>rw[hp] at hx;injection hx with hx;subst hx;exact atP d hm h e hp m r hQ|false=>simp_all);cases hx;cases hx
 |.seq mx my,c,σ,o,a,w,G,Q,b,hx,r,hQ=>by(cases c<;>simp only[lF] at b<;>first|cases b|skip);simp only[BY] at b;simp only[e9] at hx;refine wp_seq ?_;cases e:e9 T mx σ with|none=>simp_all|some j=>rw[e] at hx;cases j with|gT σ1=>exact nI d hm mx b.1 e r fun a w G g=>nI d hm my b.2 hx g hQ|ext i σ1=>injection hx with hx;subst hx;exact nI d hm mx b.1 e r hQ|ret σ1=>injection hx with hx;subst hx;exact nI d hm mx b.1 e r hQ
 |.cond f mx my,c,σ,o,a,w,G,Q,b,hx,r,hQ=>by(cases c<;>simp only[lF] at b<;>first|cases b|skip);simp only[BY] at b;simp only[e9] at hx;split at hx;rename_i t y;have v:=(r.ev b.1.1).1;rw[y] at v;refine wp_cond v.Hu ?_;(cases t with|true=>simp only[if_true] at hx⊢;exact nI d hm mx b.1.2 hx r hQ|false=>simp only[Pe,if_false] at hx⊢;exact nI d hm my b.2 hx r hQ);cases hx
 |.block id f,c,σ,o,a,w,G,Q,b,hx,r,hQ=>by(cases c<;>simp only[lF] at b<;>first|cases b|skip);simp only[BY,beq_iff_eq] at b;obtain⟨rfl,b⟩:=b;simp only[e9] at hx;refine wp_block ?_;cases e:e9 T f σ with|none=>simp_all|some j=>rw[e] at hx;refine nI d hm f b e r ?_;cases j with|gT σ1=>injection hx with hx;subst hx;exact hQ|ret σ1=>injection hx with hx;subst hx;exact hQ|ext i σ1=>simp only at hx;intro a w G g;simp only[Exit.inBlock];split at hx;rename_i p;injection hx with hx;subst hx;rw[ai p];exact hQ a w G g;rename_i p;injection hx with hx;subst hx;rw[aq p];exact hQ a w G g
 |.join ke kh cn f,c,σ,o,a,w,G,Q,b,hx,r,hQ=>by have b:lF P N c f=true:=(by cases c<;>exact b);simp only[e9] at hx;cases e:e9 T f σ with|none=>simp_all|some j=>rw[e] at hx;cases j with|gT σ1=>simp only at hx;split at hx;rename_i σh k;injection hx with hx;subst hx;exact nI d hm f b e r fun a w G g=>(by obtain⟨G',l⟩:=g.head k;exact hQ a w G' l);cases hx|ext i σ1=>injection hx with hx;subst hx;exact nI d hm f b e r hQ|ret σ1=>injection hx with hx;subst hx;exact nI d hm f b e r hQ
 |.loop id ke kh cn f,c,σ,o,a,w,G,Q,b,hx,r,hQ=>by(cases c<;>simp only[lF] at b<;>first|cases b|skip);rename_i c;simp only[e9] at hx;refine wp_loop_rounds bW ?_;revert hx r;generalize bW=n;revert σ a w G;induction n with|zero=>simp_all [Jk]|succ n x=>intro σ a w G hx r;simp only[Jk] at hx;rw[rounds_succ];cases k:σ.head ke kh cn with|none=>simp_all|some σh=>rw[k] at hx;obtain⟨G',l⟩:=r.head k;cases e:e9 T f σh with|none=>simp_all|some j=>simp only[e] at hx;refine nI d hm f b e l ?_;cases j with|gT σ1=>intro a w G g;exact x _ _ _ _ hx g|ext i σ1=>injection hx with hx;subst hx;exact hQ|ret σ1=>injection hx with hx;subst hx;exact hQ
 |.exit id,c,σ,o,a,w,G,Q,b,hx,r,hQ=>by(cases c<;>simp only[lF] at b<;>first|cases b|skip);have s:=eq_of_beq b;subst s;simp only[e9] at hx;injection hx with hx;subst hx;exact wp_exit (hQ _ _ _ r)
 |.ret,c,σ,o,a,w,G,Q,b,hx,r,hQ=>by(cases c<;>simp only[lF] at b<;>first|cases b|skip);simp only[e9] at hx;injection hx with hx;subst hx;exact wp_ret (hQ _ _ _ r)
end
inductive bO where
 |tmp (t:Nat)
 |cell (t sz:Nat) (ag:Bool)
def pT (P:Program):List ResultVar->List bO->Bool
 |[],[]=>true
 |.tmp t::rs,.tmp t'::ms=>(t==t')&&pT P rs ms
 |.cell a ty::rs,.cell a' sz ag::ms=>(a==a')&&Hx P ty ag sz&&pT P rs ms
 |_,_=>false
def St.su (σ:St):List bO->Option (List aw)
 |[]=>some []
 |.tmp t::ms=>match σ.su ms with
  |some vs=>some (σ.env t::vs)
  |none=>none
 |.cell t sz ag::ms=>match σ.env t with
  |.one p=>match loadAt σ.h p sz,σ.su ms with
   |some cs,some vs=>some (wF ag cs::vs)
   |_,_=>none
  |_=>none
def mV (h:Nat->Option aV):ao->Option (C×List Nat)
 |.c x=>if x.gI=true then some (x,[]) else none
 |.nil sz=>if 0<sz then some (.list sz [],[]) else none
 |.sl n sz 0 len=>match h n with
  |some (.row true m rs xs)=>if rs=sz/\m≠ .bh/\len<=xs.length then some (.list sz (xs.take len),[n]) else none
  |_=>none
 |_=>none
def xE (h:Nat->Option aV):List ao->Option (List C×List Nat)
 |[]=>some ([],[])
 |c::cs=>match mV h c,xE h cs with
  |some (x,ns),some (xs,qK)=>some (x::xs,ns++qK)
  |_,_=>none
def rE (h:Nat->Option aV):List aw->Option (List Dv×List Nat)
 |[]=>some ([],[])
 |v::vs=>match v.cells? with
  |some (ag,cs)=>match xE h cs,rE h vs with
   |some (xs,ns),some (ds,qK)=>some ((if ag=true then(K.agg,xs) else(K.one,xs))::ds,ns++qK)
   |_,_=>none
  |none=>none
def St.xD (σ:St) (ms:List bO):Option (List Dv):=
 match σ.su ms with
 |some vs=>match rE σ.h vs with
  |some (ds,ns)=>if ns.Nodup then some ds else none
  |none=>none
 |none=>none
section
variable {B N:Nat} {E:Ex} {w0 w w':World} {G G':Gh} {h h':Nat->Option aV} {used:Nat->Bool} {P:Program} {T:bz} {a:Act} {σ σ':St}
def ra (G:Gh) (n b:Nat):Prop:=((G.g n).nl=false/\b=(G.g n).b)\/bK b (G.g n).px
theorem HR.aeb (H:HR B E w G h used []) {n c:Nat} (k:n≠c) {a j:Bool} {m e:Mode} {sz s:Nat} {xs r:List (List C)} (l:h n=some (.row a m sz xs)) (t:h c=some (.row j e s r)) (hm:m≠ .bh) (A:e≠ .bh) {b:Nat} (i:ra G n b):¬ra G c b:=by have v:h n≠none:=(by rw[l];simp);have x:h c≠none:=(by rw[t];simp);have own:∀{p q:Nat} {a:Bool} {m:Mode} {sz:Nat} {xs:List (List C)},h p≠none->h q=some (.row a m sz xs)->m≠ .bh->(G.g p).nl=false->¬bK (G.g p).b (G.g q).px:=(by intro p q a m sz xs f u hm hl o;have y:=(H.row q a m sz xs u).mode;cases m with|bh=>exact hm rfl|bi=>exact(H.own p f hl).1 (y.1 _ o).1|live=>exact H.live q a sz xs u _ o p f hl rfl);rintro(⟨l2,rfl⟩|z);rcases i with⟨l1,d⟩|d;exact H.inj n c v x k l1 l2 d.symm;grind;rcases i with⟨l1,rfl⟩|d;grind;exact H.jE n c a m sz xs j e s r l t hm A k b d z
def Cx (E:Ex) (G:Gh) (h:Nat->Option aV):Prop:=∀b,E b->∃n cs,h n=some (.box cs)/\(G.g n).nl=false/\b=(G.g n).b
theorem Cx.no:Cx Ex.no G h:=fun _ a=>absurd a id
theorem HR.YT (H:HR B E w G h used []) (o:Cx E G h) {n:Nat} {a:Bool} {m:Mode} {sz:Nat} {xs:List (List C)} (hn:h n=some (.row a m sz xs)) (hm:m≠ .bh) {b:Nat} (i:ra G n b):¬E b:=by intro j;obtain⟨q,cs,l,d,rfl⟩:=o b j;have f:h n≠none:=(by rw[hn];simp);have c:h q≠none:=(by rw[l];simp);rcases i with⟨l1,g⟩|e;exact H.inj q n c f (by grind) d l1 g;have k:=(H.row n a m sz xs hn).mode;cases m with|bh=>exact hm rfl|bi=>exact(H.own q c d).1 (k.1 _ e).1|live=>exact H.live n a sz xs hn _ e q c d rfl
structure abe (B:Nat) (w:World) (G:Gh) (h:Nat->Option aV) (ns:List Nat) (pc:PC):Prop where
 fm:Good w pc/\Sep pc/\Hi w pc
 new:∀b,m8 b pc->(B<=b/\fB w b)/\∃n∈ns,ra G n b
def AR (h:Nat->Option aV) (ns:List Nat):Prop:=∀n∈ns,∃gr m sz xs,h n=some (.row gr m sz xs)/\m≠ .bh
theorem HR.mV (H:HR B E w G h used []) (O:Cx E G h) {c:ao} {x:C} {ns:List Nat} {v:Value} (hx:mV h c=some (x,ns)) (J:RC w G h c v): ∃pc:PC,pc.er=x/\pc.val=v/\abe B w G h ns pc/\AR h ns/\∀n sz len F m i xs,c=.sl n sz 0 len->h n=some (.row F m i xs)->∃Y cap,pc=.list i Y cap ((G.g n).px.take len):=by have N:∀pc:PC,(∀sz a cap xs,pc≠ .list sz a cap xs)->∀b,¬m8 b pc:=(by intro pc hp b d;rcases d with d|⟨sz,o,cap,xs,rfl,_⟩;(cases d with|here sz o cap xs h=>grind|there sz a cap xs k j c r t=>grind);grind);cases c with|c y=>simp only[Am.mV] at hx;split at hx;rename_i A;injection hx with hx;injection hx with r t;subst r t;obtain⟨pc,p1,p2,p3,p4⟩:=J;have dD:∀b,¬m8 b pc:=N pc (by grind [PC.fk,C.gI]);have rW:Hi w pc:=(by cases pc with|list sz a cap xs=>grind [PC.fk,C.gI]|_=>trivial);exact⟨pc,p1,p2,⟨⟨p3,(Sep.kC (by simp_all)).1,rW⟩,fun b d=>absurd d (dD b)⟩,(fun n hn=>by simp at hn),fun n sz len F m i xs e=>by cases e⟩;cases hx|nil sz=>simp only[Am.mV] at hx;split at hx;rename_i V;injection hx with hx;injection hx with r t;subst r t;have Z:v=.slice none 0 0:=J;subst Z;have I:Sep (.list sz none 0 []):=(by refine .list _ _ _ _ ?_ ?_ ?_;rintro k j c ⟨e,f,_⟩;simp at f;simp_all;rintro k j c k' j' c' b ⟨e,f,_⟩;simp at f);refine⟨.list sz none 0 [],by simp[PC.fk],rfl,⟨⟨.nil _ _ _ V,I,V,by simp,.inl rfl⟩,fun b d=>?_⟩,(fun n hn=>by simp at hn),fun n sz len F m i xs e=>by cases e⟩;rcases d with d|⟨_,_,_,_,d,U⟩;rw[bB.oZ] at d;rcases d with⟨d,_⟩|⟨k,j,c,⟨e,f,_⟩,_⟩;simp_all;simp at f;cases d;cases hx|sl n sz lo len=>(cases lo with|succ lo=>simp[Am.mV] at hx|zero=>simp only[Am.mV] at hx;split at hx;rename_i m i xs hn;split at hx;rename_i eo;obtain⟨rfl,hm,hl⟩:=eo;injection hx with hx;injection hx with r t;subst r t;have D:h n≠none:=(by rw[hn];simp);have hr:=H.row n true m i xs hn;have A:jD (G.g n) i 0 len v:=J D;obtain⟨a1,a2,z,W⟩:=Ka hr A (by omega);have vV:(∀b,bK b (G.g n).px->fB w b/\B<=b)/\me (G.g n).px/\(∀b,bK b (G.g n).px->(G.g n).nl=false->b≠(G.g n).b):=(by have p:=hr.mode;cases m with|bh=>simp_all|bi=>exact⟨fun b d=>⟨(p.1 b d).2.1,(p.1 b d).2.2.resolve_right (H.YT O hn hm (.inr d))⟩,p.2,fun b d hl iK=>(H.own n D hl).1 (iK▸(p.1 b d).1)⟩|live=>exact⟨fun b d=>⟨(p.1 b d).2.1,(p.1 b d).2.2.resolve_right (H.YT O hn hm (.inr d))⟩,p.2,fun b d hl=>H.live n true i xs hn b d n D hl⟩);obtain⟨o1,o2,X⟩:=vV;refine⟨nC (G.g n) i 0 len v,by simpa using a1,a2,?_,fun q hq=>?_,fun n' bf xt cq m' pf aM M s=>?_⟩;rcases A with⟨l,rfl,_,rfl⟩|⟨l,P,rfl,j9,K⟩;simp only[nC] at z⊢;have hz:(zaI 0 (za5 0 (G.g n).px))=[]:=(by simp);have EG:=(hr.nl l).2 rfl;rw[hz,EG] at z⊢;have I:Sep (.list i (G.g n).na 0 []):=(by refine .list _ _ _ _ ?_ ?_ ?_;rintro k j c ⟨e,f,_⟩;simp at f;rintro b o k j c _ ⟨e,f,_⟩;simp at f;rintro k j c k' j' c' b ⟨e,f,_⟩;simp at f);refine⟨⟨z,I,hr.pos,by simp,.inl rfl⟩,fun b d=>?_⟩;rcases d with d|⟨_,_,_,_,d,U⟩;rw[bB.oZ] at d;rcases d with⟨d,_⟩|⟨k,j,c,⟨e,f,_⟩,_⟩;simp_all;simp at f;simp_all;obtain⟨r2,cur,e,r3,r4⟩:=hr.room l rfl;have e0:=K (.inr rfl);have Q:P=some (ad (G.g n).b (G.g n).o):=(by rw[e0];simp);subst Q;simp only[nC,zag] at z W⊢;have S:=o2.sub 0 len;have T:∀k j c,At ((za5 0 (G.g n).px).take len) k j c->At (G.g n).px k j c:=fun k j c u=>(by have:=(vr u).1;simp_all);refine⟨⟨z,.list _ _ _ _ S.1 (fun b o k j c L u d=>?_) S.2,hr.pos,by simp;omega,.inr ⟨_,_,cur,e,rfl,r3,r4,r2,fun k j c u d=>?_⟩⟩,fun b d=>?_⟩;injection L with L;exact X b ⟨_,_,_,T _ _ _ u,d⟩ l (pn L).1.symm;exact X _ ⟨_,_,_,T _ _ _ u,d⟩ l rfl;have R:ra G n b:=(by rcases d with d|⟨_,_,_,_,d,U⟩;exact W b d;injection d with _ d _ _;injection d with d;exact .inl ⟨l,(pn d).1.symm⟩);refine⟨?_,n,by simp,R⟩;rcases R with⟨_,rfl⟩|hF;exact⟨((H.own n D l).2.1).resolve_right (H.YT O hn hm (.inl ⟨l,rfl⟩)),(hr.f6 l).1⟩;grind;grind;injection M with M _ _ e3;subst M e3;rw[hn] at s;injection s with s;injection s with _ _ s _;subst s;rcases A with⟨_,rfl,_,_⟩|⟨_,a',rfl,_,_⟩;simp_all [nC,List.drop_zero];grind [nC];cases hx;cases hx)|ptr _ _ _ _=>simp[Am.mV] at hx|ez _ _=>simp[Am.mV] at hx|dE _ _ _ _ _ _=>simp[Am.mV] at hx|cF _ _ _ _ _ _=>simp[Am.mV] at hx|fn _ _=>simp[Am.mV] at hx|eE _ _ _ _ _ _=>simp[Am.mV] at hx|cj=>simp[Am.mV] at hx
structure zk (B:Nat) (w:World) (G:Gh) (h:Nat->Option aV) (ns:List Nat) (ps:List PC):Prop where
 each:∀pc∈ps,abe B w G h ns pc
 qX:ns.Nodup->ps.Pairwise fun p q=>∀b,m8 b p->¬m8 b q
theorem zk.append (H:HR B E w G h used []) {ns e:List Nat} {ps d:List PC} (f:zk B w G h ns ps) (i:zk B w G h e d) (u:AR h ns) (r:AR h e):zk B w G h (ns++e) (ps++d):=by refine⟨fun pc t=>?_,fun hd=>?_⟩;rcases zaC.1 t with a|a;obtain⟨g,n⟩:=f.each pc a;exact⟨g,fun b c=>⟨(n b c).1,by grind⟩⟩;obtain⟨g,n⟩:=i.each pc a;exact⟨g,fun b c=>⟨(n b c).1,by grind⟩⟩;rw[List.nodup_append] at hd;rw[List.pairwise_append];refine⟨f.qX hd.1,i.qX hd.2.1,fun p a q y b c o=>?_⟩;obtain⟨k,l,v⟩:=((f.each p a).new b c).2;obtain⟨k',j,x⟩:=((i.each q y).new b o).2;obtain⟨_,_,_,_,m,m1⟩:=u k l;obtain⟨_,_,_,_,s,m2⟩:=r k' j;exact H.aeb (hd.2.2 k l k' j) m s m1 m2 v x
theorem AR.append {ns a:List Nat} (c:AR h ns) (b:AR h a):AR h (ns++a):=fun n hn=>(zaC.1 hn).elim (c n) (b n)
theorem HR.xE (H:HR B E w G h used []) (l:Cx E G h):∀{cs:List ao} {xs:List C} {ns:List Nat} {vs:List Value},xE h cs=some (xs,ns)->eN w G h cs vs->
  ∃d:List PC,d.map PC.er=xs/\d.map PC.val=vs/\zk B w G h ns d/\AR h ns
 |[],xs,ns,vs,hx,hc=>by
  simp only[Am.xE] at hx;injection hx with hx;injection hx with b e;subst b e;have:vs=[]:=IT (by simpa using hc.1);subst this;exact⟨[],rfl,rfl,⟨by simp,fun _=>zaY⟩,fun n hn=>by simp at hn⟩
 |c::cs,xs,ns,vs,hx,hc=>by
  simp only[Am.xE] at hx;split at hx
  ·rename_i x f aM ns2 m s;injection hx with hx;injection hx with b e;subst b e;obtain⟨a,g⟩:=hc;match vs,a with
   |v::vs,a=>
    obtain⟨pc,y,o,a3,k,_⟩:=H.mV l m (g 0 c v rfl rfl).2;obtain⟨d,p,t,z,i⟩:=H.xE l s (cs:=cs) (vs:=vs) ⟨by grind,fun j c u b e=>g (j+1) c u b e⟩;have r:zk B w G h f [pc]:=⟨fun q hq=>by grind,fun _=>by simp⟩;exact⟨pc::d,by simp[y,p],by simp[o,t],zk.append H r z k i,k.append i⟩
  ·cases hx
theorem HR.rE (H:HR B E w G h used []) (s:Cx E G h):∀{xs:List aw} {ds:List Dv} {ns:List Nat} {vs:List Value},rE h xs=some (ds,ns)->vs.length=xs.length->
  (∀(j:Nat) (x:aw) (v:Value),xs[j]? =some x->vs[j]? =some v->RA w G h x v)->
  ∃b:List (K×List PC),b.map (fun p=>(p.1,p.2.map PC.er))=ds/\b.map uZ=vs/\(∀p∈b,p.1≠ .ptr/\(p.1=.one->p.2.length=1))/\zk B w G h ns (b.flatMap (·.2))/\AR h ns
 |[],ds,ns,vs,hx,hl,hc=>by
  simp only[Am.rE] at hx;injection hx with hx;injection hx with f g;subst f g;have:vs=[]:=IT (by omega);subst this;exact⟨[],rfl,rfl,by simp,⟨by simp,fun _=>zaY⟩,fun n hn=>by simp at hn⟩
 |x::xs,ds,ns,vs,hx,hl,hc=>by
  simp only[Am.rE] at hx;split at hx
  ·rename_i ag cs a;split at hx
   ·rename_i ys ns1 Bj ns2 z D;injection hx with hx;injection hx with f g;subst f g;match vs,hl with
    |v::vs,hl=>
     obtain⟨o,I,d,y,i⟩:=H.xE s z ((hc 0 x v rfl rfl).cells a);obtain⟨b,C,t,b3,r,k⟩:=H.rE s D (xs:=xs) (vs:=vs) (by simpa using hl) (fun j x v f g=>hc (j+1) x v f g);have u:=hc 0 x v rfl rfl;cases ag with
     |true=>
      have m:uZ (K.agg,o)=v:=by
       cases x with
       |one c=>cases c<;>simp[aw.cells?] at a
       |agg cs'=>
        obtain⟨us,e,_⟩:∃us:List Value,v=.agg us.toArray/\eN w G h cs' us:=u;subst e;simp only[uZ,d];simp[Value.cells]
       |cT l=>simp[aw.cells?] at a
      refine⟨(K.agg,o)::b,by simp[I,C],by simp[m,t],fun p A=>?_,?_,i.append k⟩
      ·grind
      ·simpa using zk.append H y r i k
     |false=>
      have L:∃c,x=.one c/\cs=[c]:=by
       cases x with
       |one c=>cases c<;>simp[aw.cells?] at a<;>simp_all
       |agg cs'=>simp[aw.cells?] at a
       |cT l=>simp[aw.cells?] at a
      obtain⟨c,rfl,rfl⟩:=L;have J:c≠ .cj:=by rintro rfl;simp[aw.cells?] at a
      have q:=(u.il J).2;have F:v.cells.toList=[v]:=by cases v<;>first|rfl|(simp[Value.oneCell'] at q)
      rw[F] at d;match o,d with
      |[pc],d=>
       have m:uZ (K.one,[pc])=v:=by simpa[uZ] using d
       refine⟨(K.one,[pc])::b,by simp_all,by simp[m,t],fun p A=>?_,?_,i.append k⟩
       ·grind
       ·simpa using zk.append H y r i k
   ·cases hx
  ·cases hx
end
def EE:Dv->aw
 |(.one,[x])=>.one (.c x)
 |(.one,_)=>.one .cj
 |(.agg,xs)=>.agg (xs.map .c)
 |(.ptr,xs)=>.one (.ez xs 0)
def z8:Nat->List Dv->(Nat->aw)
 |_,[]=>C5
 |k,d::ds=>aN (z8 (k+1) ds) k (EE d)
def IV (ds:List Dv):St:={env:=z8 0 ds,h:=HS,used:=fun n=>zau aY n}
def RF (T:bz) (mc:mH) (aC:List bO) (ds:List Dv):Option (List Dv):=
 match e9 T mc (IV ds) with
 |some (.gT σ)=>σ.xD aC
 |some (.ret σ)=>σ.xD aC
 |_=>none
section
variable {B N:Nat} {E:Ex} {w0 w w':World} {G G':Gh} {h h':Nat->Option aV} {used:Nat->Bool} {P:Program} {T:bz} {a:Act} {σ σ':St} {Q:Exit->Act->World->Prop}
theorem XX:∀(ds:List Dv) (k n:Nat),z8 k ds n=if k<=n then(match ds[n - k]? with|some d=>EE d|none=>.one .cj) else .one .cj
 |[],k,n=>by simp[z8,C5]
 |d::ds,k,n=>by simp only[z8,mZ,XX ds];by_cases h:n=k;subst h;simp;by_cases h2:k<=n;have h3:k+1<=n:=(by omega);have h4:n - k=(n - (k+1))+1:=(by omega);simp_all;grind
def Wm (w:World):Gh:=⟨fun b=>b<w.heap.size,fun _=>default⟩
theorem akb {d:Dv} {v:Value} (hd:GO w d v):RA w (Wm w) HS (EE d) v:=by
 have cells:∀{a:List PC},(∀pc∈a,Good w pc)->eN w (Wm w) HS ((a.map PC.er).map .c) (a.map PC.val):=by
  intro a n;refine⟨by simp,fun j c u e i=>?_⟩;simp only[GB,zac] at e i;cases hp:a[j]? with
  |none=>simp_all
  |some pc=>
   rw[hp] at e i;simp at e i;subst e;subst i;have h:=n pc (wt hp);exact⟨PC.nW pc,pc,rfl,rfl,h,fun b l=>h.lt l⟩
 obtain⟨k,xs⟩:=d;cases k with
 |one=>
  obtain⟨a,p1,g,f⟩:=hd;have p1:a.map PC.er=xs:=p1;subst p1;match a,f with
  |[pc],f=>
   simp at f;subst f;exact RA.iB (PC.nW pc) ⟨pc,rfl,rfl,g pc (by simp),fun b l=>(g pc (by simp)).lt l⟩
 |agg=>
  obtain⟨a,p1,g,f⟩:=hd;have p1:a.map PC.er=xs:=p1;subst p1;exact⟨_,f,cells g⟩
 |ptr=>
  obtain⟨a,b,o,p1,g,f,p4⟩:=hd;have p1:a.map PC.er=xs:=p1;subst p1 g;exact RA.iB rfl ⟨b,o,a,by simp,rfl,f,fun j c e=>⟨(p4 j c e).1,(p4 j c e).2,fun b' m=>(p4 j c e).2.lt m⟩⟩
theorem akc {d:Dv} {m:Nat}:¬(EE d).ref m:=by
 obtain⟨k,xs⟩:=d;cases k with
 |one=>match xs with
  |[]=>exact id
  |[x]=>exact id
  |_::_::_=>exact id
 |agg=>
  rintro⟨c,a,h⟩;obtain⟨y,_,rfl⟩:=zab.1 a;exact h
 |ptr=>exact id
theorem R.init {ds:List Dv} {vals:List Value} (q:KG w ds vals) (hN:ds.length<=N): R w.heap.size Ex.no w N (IV ds) {tmps:=vals.toArray++zaj (N - vals.toArray.size) undef,defers:=[]} w (Wm w):=by obtain⟨hl,j⟩:=q;refine⟨rfl,by simp;omega,fun s=>?_,fun s n hn=>?_,?_,Fr.refl _ _ _ (zad _),fun n p b i=>(by cases i),fun n hn=>OF hn⟩;show RA w _ HS (z8 0 ds s) _;rw[XX];simp only[zaB,if_true,zag];(cases hs:ds[s]? with|none=>exact Or.inl rfl|some d=>have g:s<vals.length:=(by rw[hl];exact(If.1 hs).1);have l:vals[s]? =some vals[s]:=AN g;have:(vals.toArray++zaj (N - vals.toArray.size) undef).getD s undef=vals[s]:=(by simp[zak,zaR,g]);rw[this];exact akb (j s d _ hs l));have a:(z8 0 ds s).ref n:=hn;rw[XX] at a;simp only[zaB,if_true,zag] at a;(cases hs:ds[s]? with|none=>rw[hs] at a;exact absurd a id|some d=>rw[hs] at a;exact absurd a akc);have e:∀n,(IV ds).h n=none:=fun n=>rfl;refine⟨fun n hn=>absurd (e n) hn,fun m cs c n hm=>?_,fun n cs hn=>?_,fun n f m sz xs hn=>?_,fun n hn=>absurd (e n) hn,fun n o hn=>absurd (e n) hn,fun b k=>k,fun b _=>.inr (.inr trivial), fun n o f m sz xs cq m' bf aM hn=>?_,fun n f sz xs hn=>?_,?_,?_,?_⟩;simp_all;simp_all;simp_all;simp_all;simp_all;simp_all;simp_all;simp_all
theorem auu (r:R B E w0 N σ a w G) {t sz:Nat} {ag:Bool} {ty:TypeId} {p:ao} {cs:List ao} (e:Hx P ty ag sz=true) (x:σ.env t=.one p) (hx:loadAt σ.h p sz=some cs):
  ∃v,(Cf a.tmps (.cell t ty)).run P w=.ok v w/\RA w G σ.h (wF ag cs) v:=by
 have q:=r.env t;have o:=r.tP t;rw[x] at q o;have C:p≠ .cj:=by rintro rfl;simp[Am.loadAt] at hx
 obtain⟨b,of,vs,s,F,z,f,h5⟩:=r.hr.loadAt hx (q.il C).1 (fun m hm=>o m hm);have A:∀n:Nat,n=vs.length->(loadCells (ad b of) n).run P w=.ok vs.toArray w:=fun n hn=>by
  subst hn;exact run_loadCells_list w (ad b of) vs (fun j u hj=>by simp_all [vn])
 unfold Hx at e;cases hu:P.underlying ty with
 |none=>simp_all
 |some d=>
  cases hi:P.info? ty with
  |none=>rw[hu,hi] at e;cases d<;>simp at e
  |some i=>
   rw[hu,hi] at e;have y:(ag=true/\i.size=sz/\(isAgg ty).run P w=.ok true w)\/(ag=false/\sz=1/\(isAgg ty).run P w=.ok false w):=by
    cases d<;>simp at e<;>simp[isAgg,run_underlying hu,e]
   rcases y with⟨rfl,k,g⟩|⟨rfl,k,g⟩
   ·refine⟨.agg vs.toArray,?_,vs,rfl,f⟩;simp[Cf,s,loadVar,asAddr,g,sizeOf,typeInfo,hi,A i.size (by omega)]
   ·subst k;match vs,F with
    |[u],_=>
     have D:∃c,cs=[c]:=by
      have:=f.1;match cs,this with
      |[c],_=>exact⟨c,rfl⟩
     obtain⟨c,rfl⟩:=D;have l:=z 0 u rfl;simp only[zaE] at l;exact⟨u,by simp[Cf,s,loadVar,asAddr,g,l],.inr f⟩
theorem JX (r:R B E w0 N σ a w G):∀{d:List ResultVar} {ms:List bO} {vs:List aw},pT P d ms=true->σ.su ms=some vs-> ∃us:List Value,(d.mapM (Cf a.tmps)).run P w=.ok us w/\us.length=vs.length/\us.length=d.length/\∀(j:Nat) (x:aw) (v:Value),vs[j]? =some x->us[j]? =some v->RA w G σ.h x v
 |[],[],vs,b,hx=>by simp_all [St.su]
 |.tmp t::d,.tmp t'::ms,vs,b,hx=>by simp only[pT,BY,beq_iff_eq] at b;obtain⟨rfl,b⟩:=b;simp only[St.su] at hx;split at hx;rename_i f e;injection hx with hx;subst hx;obtain⟨us,g,u2,c,l⟩:=JX r b e;refine⟨a.tmps.getD t undef::us,by simp[Cf,g],by simp[u2],by simp[c],fun j x v k i=>?_⟩;(cases j with|zero=>simp only[zaL,Pd] at k i;subst k;subst i;exact r.env t|succ j=>grind);cases hx
 |.cell t ty::d,.cell t' sz ag::ms,vs,b,hx=>by simp only[pT,BY,beq_iff_eq] at b;obtain⟨⟨rfl,n⟩,b⟩:=b;simp only[St.su] at hx;split at hx;rename_i p o;split at hx;rename_i cs f m q;injection hx with hx;subst hx;obtain⟨us,g,u2,c,l⟩:=JX r b q;obtain⟨u,s,v2⟩:=auu r n o m;refine⟨u::us,by simp[s,g],by simp[u2],by simp[c],fun j x v k i=>?_⟩;grind;cases hx;cases hx
 |[],_::_,_,b,_=>by simp[pT] at b
 |.tmp _::_,[],_,b,_=>by simp[pT] at b
 |.cell _ _::_,[],_,b,_=>by simp[pT] at b
 |.tmp _::_,.cell _ _ _::_,_,b,_=>by simp[pT] at b
 |.cell _ _::_,.tmp _::_,_,b,_=>by simp[pT] at b
theorem agL {a:List (K×List PC)}:Jz (a.map uZ)=yW a:=by
 match a with
 |[]=>rfl
 |[p]=>rfl
 |p::q::a=>rfl
theorem Zp (r:R B Ex.no w0 N σ a w G) {fn:Func} {ms:List bO} {ds:List Dv} (n:pT P fn.results.toList ms=true) (hx:σ.xD ms=some ds): ∃c:List (K×List PC),c.map (fun p=>(p.1,p.2.map PC.er))=ds/\(results fn a.tmps).run P w=.ok (yW c) w/\(∀p∈c,p.1≠ .ptr/\(p.1=.one->p.2.length=1))/\ xW w B (c.flatMap (·.2)):=by unfold St.xD at hx;split at hx;rename_i vs h;split at hx;rename_i Bj ns m;split at hx;rename_i q;injection hx with hx;subst hx;obtain⟨us,l,u2,_,f⟩:=JX r n h;obtain⟨c,p1,g,o,p4,p5⟩:=r.hr.rE Cx.no m u2 f;refine⟨c,p1,?_,o,⟨fun pc d=>(p4.each pc d).fm,fun pc d b e=>((p4.each pc d).new b e).1,fun i j pc fP b lN hi hj e=>?_⟩⟩;rw[JY fn a.tmps l,<-g,agL];have k:=p4.qX q;rw[zaq] at k;grind;cases hx;cases hx;cases hx
def Jv (h:Nat->Option aV):ao->Bool
 |.sl n _ 0 _=>match h n with
  |some (.row true .live _ _)=>true
  |_=>false
 |_=>false
def St.Gr (σ:St) (ms:List bO):Option (List Dv):=
 match σ.su ms with
 |some [.one c]=>match mV σ.h c with
  |some (x,_)=>if Jv σ.h c=true then some [(.one,[x])] else none
  |none=>none
 |_=>none
def runN (T:bz) (mc:mH) (aC:List bO) (ds:List Dv):Option (List Dv):=
 match e9 T mc (IV ds) with
 |some (.gT σ)=>σ.Gr aC
 |some (.ret σ)=>σ.Gr aC
 |_=>none
theorem at4 (r:R B Ex.no w0 N σ a w G) {fn:Func} {ms:List bO} {ds:List Dv} (D:pT P fn.results.toList ms=true) (hx:σ.Gr ms=some ds):
  ∃(sz cap:Nat) (f:Option Addr) (xs:List (List PC)),ds=[(.one,[(PC.list sz f cap xs).er])]/\(results fn a.tmps).run P w=.ok (PC.list sz f cap xs).val w/\xW w B [PC.list sz f cap xs]/\t8 w sz xs:=by
 unfold St.Gr at hx;split at hx
 ·rename_i c v;split at hx
  ·rename_i x ns m;split at hx
   ·rename_i g;injection hx with hx;subst hx;obtain⟨us,A,u2,_,t⟩:=JX r D v;match us,u2 with
    |[u],_=>
    have C:=t 0 _ u rfl rfl;have H:c≠ .cj:=by rintro rfl;simp[Am.mV] at m
    obtain⟨pc,F,y,s,_,I⟩:=r.hr.mV Cx.no m (C.il H).1;cases c with
    |sl n sz lo len=>
     cases lo with
     |succ lo=>simp[Jv] at g
     |zero=>
      simp only[Jv] at g;split at g
      ·rename_i l xs hn;obtain⟨f,cap,d⟩:=I n sz len true .live l xs rfl hn;subst d;refine⟨l,cap,f,_,by rw[F],?_,⟨fun pc d=>?_,fun pc d b z=>?_,fun i j p q b lN hi o=>?_⟩,fun k p E=>?_⟩
       ·rw[JY fn a.tmps A,y];rfl
       ·simp at d;subst d;exact s.fm
       ·simp at d;subst d;exact(s.new b z).1
       ·grind
       ·refine(r.hr.row n true .live l xs hn).nr rfl rfl k p ?_;obtain⟨e,h,o⟩:=E;rw[List.getElem?_take] at h;split at h
        ·exact⟨e,h,o⟩
        ·cases h
      ·cases g
    |_=>simp[Jv] at g
   ·cases hx
  ·cases hx
 ·cases hx
theorem arT (k:pQ P T) (hm:P.follows .mixedOrders=true) {f:FuncId} {fn:Func} {c:Code} {h:mH} {ms:List bO} {M:List Dv->Option (List Dv)} (q:P.funcs[f]? =some fn) (n:fn.body=some c) (i:lF P fn.ntmps c h=true) (hr:pT P fn.results.toList ms=true) (t:∀ds b,M ds=some b->ds.length<=fn.ntmps/\runN T h ms ds=some b):zj P f M:=by intro ds b o w vals s;obtain⟨m,g⟩:=t ds b o;refine calls_of_wp q n ?_;have j:=R.init (N:=fn.ntmps) s m;unfold runN at g;have jg:∀{σ:St} {a:Act} {w':World} {G:Gh},σ.Gr ms=some b->R w.heap.size Ex.no w fn.ntmps σ a w' G->a.defers=[]/\∃v,(results fn a.tmps).run P w'=.ok v w'/\ ∃(sz cap:Nat) (d:Option Addr) (xs:List (List PC)),b=[(.one,[(PC.list sz d cap xs).er])]/\(Ending.returned v)=.returned (PC.list sz d cap xs).val/\xW w' w.heap.size [PC.list sz d cap xs]/\Fr w.heap.size Ex.no w w'/\t8 w' sz xs:=(by intro σ a w' G hx r;obtain⟨sz,cap,d,xs,p1,l,p,p4⟩:=at4 r hr hx;exact⟨r.defers,_,l,sz,cap,d,xs,p1,rfl,p,r.fr,p4⟩);split at g;rename_i σ e;exact nI k hm h i e j fun a w' G r=>jg g r;rename_i σ e;exact nI k hm h i e j fun a w' G r=>jg g r;cases g
theorem atw (k:pQ P T) (hm:P.follows .mixedOrders=true) {f:FuncId} {fn:Func} {c:Code} {h:mH} {ms:List bO} {M:List Dv->Option (List Dv)} (s:P.funcs[f]? =some fn) (n:fn.body=some c) (i:lF P fn.ntmps c h=true) (hr:pT P fn.results.toList ms=true) (u:∀ds b,M ds=some b->ds.length<=fn.ntmps/\RF T h ms ds=some b):eI P f M:=by intro ds b o w vals t;obtain⟨m,g⟩:=u ds b o;refine calls_of_wp s n ?_;have j:=R.init (N:=fn.ntmps) t m;unfold RF at g;have jg:∀{σ:St} {a:Act} {w':World} {G:Gh},σ.xD ms=some b->R w.heap.size Ex.no w fn.ntmps σ a w' G->a.defers=[]/\∃v,(results fn a.tmps).run P w'=.ok v w'/\ ∃d:List (K×List PC),d.map (fun p=>(p.1,p.2.map PC.er))=b/\(Ending.returned v)=.returned (yW d)/\(∀p∈d,p.1≠ .ptr/\(p.1=.one->p.2.length=1))/\ xW w' w.heap.size (d.flatMap (·.2))/\Fr w.heap.size Ex.no w w':=(by intro σ a w' G hx r;obtain⟨d,p1,l,q,p4⟩:=Zp r hr hx;exact⟨r.defers,_,l,d,p1,rfl,q,p4,r.fr⟩);split at g;rename_i σ e;exact nI k hm h i e j fun a w' G r=>jg g r;rename_i σ e;exact nI k hm h i e j fun a w' G r=>jg g r;cases g
end

def mg:Nat->List (Option Mode)->List C->List ao
 |c,some _::fs,.list sz xs::cs=>.sl (aY+c) sz 0 xs.length::mg (c+1) fs cs
 |c,some _::fs,x::cs=>.cj::mg (c+1) fs cs
 |c,none::fs,x::cs=>.c x::mg c fs cs
 |c,[],cs=>cs.map .c
 |c,_::_,[]=>[]
def Lj (c:Nat) (s:List (Option Mode)) (xs:List C):ao:=
 match s with
 |[]=>.ez xs 0
 |_::_=>match xs.getLast? with
  |some (.list sz l)=>.dE xs 0 (xs.length - 1) (aY+c) sz l.length
  |_=>.cj
def vq (c:Nat) (s:List (Option Mode)):Dv->aw
 |(.one,xs)=>match mg c s xs with
  |[x]=>.one x
  |_=>.one .cj
 |(.agg,xs)=>.agg (mg c s xs)
 |(.ptr,xs)=>.one (Lj c s xs)
def rn:Nat->Nat->df->List Dv->(Nat->aw)
 |_,_,_,[]=>C5
 |k,c,[],d::ds=>aN (rn (k+1) c [] ds) k (vq c [] d)
 |k,c,s::sig,d::ds=>aN (rn (k+1) (c+(hZ s d.2).length) sig ds) k (vq c s d)
def qj:Mode×C->Option aV
 |(m,.list sz xs)=>some (.row false m sz xs)
 |_=>none
def r5 (sig:df) (ds:List Dv):St:=
 {env:=rn 0 0 sig ds
  h:=fun n=>if aY<=n then((fx sig (ds.map (·.2)))[n - aY]?).bind qj else none
  used:=fun n=>zau aY n}
def St.oB (σ:St):St:={σ with h:=fun n=>if aY<=n then none else σ.h n}
def Gi (σ:St) (q:Nat) (x:Mode×C):Option C:=
 match x.2,σ.h (aY+q) with
 |.list sz xs,some (.row _ m' bf aM)=>if m'=x.1/\bf=sz/\aM.length=xs.length/\zD x.1 aM=true/\aM.map (fun e=>e.map C.xl)=xs.map (fun e=>e.map C.xl) then some (.list sz aM) else none
 |_,_=>none
def Au (σ:St):Nat->List (Mode×C)->Option (List C)
 |_,[]=>some []
 |q,x::l=>match Gi σ q x,Au σ (q+1) l with
  |some y,some ys=>some (y::ys)
  |_,_=>none
def St.Az (σ:St) (ms:List bO) (fl:List (Mode×C)):Option (List Dv×List C):=
 match σ.oB.xD ms,Au σ 0 fl with
 |some rs,some fy=>some (rs,fy)
 |_,_=>none
def RG (T:bz) (mc:mH) (aC:List bO) (sig:df) (ds:List Dv):Option (List Dv×List C):=
 match e9 T mc (r5 sig ds) with
 |some (.gT σ)=>σ.Az aC (fx sig (ds.map (·.2)))
 |some (.ret σ)=>σ.Az aC (fx sig (ds.map (·.2)))
 |_=>none
section
variable {B N:Nat} {E:Ex} {w0 w w':World} {G G':Gh} {h h':Nat->Option aV} {used:Nat->Bool} {P:Program} {T:bz} {a:Act} {σ σ':St} {Q:Exit->Act->World->Prop}
def sk:PC->PB
 |.list _ a cap []=>⟨true,0,0,cap,[],a⟩
 |.list _ (some a) cap (e::xs)=>⟨false,a.block,a.off,cap,e::xs,none⟩
 |_=>default
theorem JB (sz:Nat) (a:Option Addr) (cap:Nat):sk (.list sz a cap [])=⟨true,0,0,cap,[],a⟩:=by cases a<;>rfl
theorem Av {sz b o cap:Nat} {xs:List (List PC)} (h:xs≠[]):sk (.list sz (some (ad b o)) cap xs)=⟨false,b,o,cap,xs,none⟩:=by cases xs with|nil=>exact absurd rfl h|cons e xs=>rfl
theorem Good.cases {w:World} {sz cap:Nat} {a:Option Addr} {xs:List (List PC)} (h:Good w (.list sz a cap xs)):xs=[]\/(xs≠[]/\xs.length<=cap/\∃b o,a=some (ad b o)):=by cases h with|nil _ _ _ h=>exact .inl rfl|cons _ b o _ _ d c=>exact .inr ⟨d,c,b,o,rfl⟩
def wX (fl:List (Mode×PC)):Ex:=
 ⟨fun b=>∃x∈fl,bB b x.2,fun n=>if aY<=n then(fl[n - aY]?).map fun x=>sk x.2 else none,fun n p h=>(by
  by_cases hn:aY<=n
  ·exact hn
  ·rw[aq hn] at h;cases h),fun _=>True⟩
def qx (w:World) (fl:List (Mode×PC)):Gh:=
 ⟨fun b=>b<w.heap.size/\¬∃x∈fl,bB b x.2,fun n=>match fl[n - aY]? with|some x=>sk x.2|none=>default⟩
def sQ (fl:List (Mode×PC)):Nat->Option aV:=fun n=>if aY<=n then((fl.map fun x=>(x.1,x.2.er))[n - aY]?).bind qj else none
theorem w6 {fl:List (Mode×PC)} {n:Nat} {blk:aV} (hn:sQ fl n=some blk):aY<=n/\∃m sz a cap xs,fl[n - aY]? =some (m,.list sz a cap xs)/\blk=.row false m sz (xs.map fun e=>e.map PC.er):=by unfold sQ at hn;split at hn;rename_i c;refine⟨c,?_⟩;rw[GB] at hn;(cases hf:fl[n - aY]? with|none=>rw[hf] at hn;cases hn|some x=>rw[hf] at hn;obtain⟨m,pc⟩:=x;cases pc with|int k i=>simp[PC.er,qj] at hn|bool b=>simp[PC.er,qj] at hn|list sz a cap xs=>simp[PC.fk,qj] at hn;exact⟨m,sz,a,cap,xs,rfl,hn.symm⟩);cases hn
theorem m8.OC (b o sz cap:Nat) (xs:List (List PC)) (a:cap≠0):m8 b (.list sz (some (ad b o)) cap xs):=.inr ⟨_,_,_,_,rfl,a⟩
theorem m8.row {b sz:Nat} {a:Option Addr} {cap:Nat} {xs:List (List PC)} (h:bK b xs):m8 b (.list sz a cap xs):=by obtain⟨k,j,c,e,d⟩:=h;exact .inl (.there _ _ _ _ k j c e d)
theorem Sep.row {sz:Nat} {a:Option Addr} {cap:Nat} {xs:List (List PC)} (h:Sep (.list sz a cap xs)):me xs:=by cases h with|list _ _ _ _ b h2 c=>exact⟨b,c⟩
theorem Good.rowAt {sz b o cap:Nat} {xs:List (List PC)} (h:Good w (.list sz (some (ad b o)) cap xs)):rI w b o sz xs:=by generalize hq:PC.list sz (some (ad b o)) cap xs=q at h;cases h with|int k n=>cases hq|bool b=>cases hq|nil s a u h0=>injection hq with r t p d;subst d;exact⟨by simp,by rintro k j c ⟨e,f,_⟩;simp at f,by rintro k j c ⟨e,f,_⟩;simp at f⟩|cons s b' o' u aM r t p d l i=>injection hq with m g e3 e4;injection g with g;obtain⟨rfl,rfl⟩:=pn g;subst m e3 e4;exact⟨d,l,i⟩
theorem HR.Nm {fl:List (Mode×PC)} (G:∀x∈fl,Good w x.2) (A:∀x∈fl,EB w x.1 x.2) (S:fl.Pairwise fun x y=>∀b,bB b x.2->¬bB b y.2): HR w.heap.size (wX fl) w (qx w fl) (sQ fl) (fun n=>zau aY n) []:=by have qX:∀{i j:Nat} {x y:Mode×PC},fl[i]? =some x->fl[j]? =some y->i≠j->∀b,bB b x.2->¬bB b y.2:=(by intro i j x y q hj lN b d F;obtain⟨X,ei⟩:=If.1 q;obtain⟨lj,ej⟩:=If.1 hj;rw[zaq] at S;subst ei;subst ej;rcases Nat.lt_or_gt_of_ne lN with h|h;exact S i j X lj h b d F;exact S j i lj X h b F d);have s:∀{n:Nat} {x:Mode×PC},fl[n - aY]? =some x->(qx w fl).g n=sk x.2:=(by intro n x h;simp only[qx,h]);have OC:∀{x:Mode×PC},x∈fl->(sk x.2).nl=false->bB (sk x.2).b x.2:=(by intro x hx hl;obtain⟨sz,a,cap,xs,e,_,_,_⟩:=(A x hx).f6;have v:=G x hx;rw[e] at hl v⊢;rcases v.cases with rfl|⟨p,_,b,o,rfl⟩;rw[JB] at hl;cases hl;rw[Av p];exact .here _ _ _ _ p);have L:∀{x:Mode×PC},x∈fl->∀b,bK b (sk x.2).px->bB b x.2:=(by intro x hx b d;obtain⟨sz,a,cap,xs,e,_,_,_⟩:=(A x hx).f6;have v:=G x hx;rw[e] at d v⊢;rcases v.cases with rfl|⟨p,_,b,o,rfl⟩;rw[JB] at d;obtain⟨k,j,c,⟨e,I,_⟩,_⟩:=d;simp at I;rw[Av p] at d;obtain⟨k,j,c,T,J⟩:=d;exact .there _ _ _ _ k j c T J);have sub:∀{n r:Nat},aY<=n->aY<=r->n≠r->n - aY≠r - aY:=(by intro n r h1 h2 h3;omega);refine⟨fun n hn=>?_,fun m cs c n hm=>?_,fun n cs hn=>?_,fun n H m sz xs hn=>?_,fun n hn hl=>?_,fun n r hn E p hl z=>?_,fun b d=>d.1,fun b _=>.inr (.inr trivial),fun n r H m sz xs cq C N t hn E _ _ p b d=>?_, fun n H sz xs hn b d r E z=>?_,(by intro i pc q;simp at q),(by intro i j pc fP b _ q;simp at q),(by intro i pc n H m sz xs b q;simp at q)⟩;(cases hh:sQ fl n with|none=>exact absurd hh hn|some b=>exact OF (w6 hh).1);obtain⟨_,C,sz,a,cap,xs,_,e⟩:=w6 hm;cases e;obtain⟨_,C,sz,a,cap,xs,_,e⟩:=w6 hn;cases e;obtain⟨u,C,N,a,cap,t,f,e⟩:=w6 hn;injection e with D e2 e3 e4;subst D e2 e3 e4;have hx:(m,PC.list sz a cap t)∈fl:=wt f;have ok:=A _ hx;have fm:=G _ hx;obtain⟨Q,R,O,M,e,fZ,yw,Z⟩:=ok.f6;injection e with D e2 e3 e4;subst D e2 e3 e4;rw[s f];have P:∀b,bK b t->bB b (PC.list sz a cap t):=fun b ⟨k,j,c,T,J⟩=>.there _ _ _ _ k j c T J;have ju:Hd w.heap.size (wX fl) w (qx w fl) t m:=(by have Y:=Sep.row ok.sep;cases m with|bh=>cases Z|bi=>exact⟨fun b d=>absurd d (AA Z b),Y⟩|live=>exact⟨fun b d=>⟨fun q=>q.2 ⟨_,hx,P b d⟩,ok.un b (P b d),.inr ⟨_,hx,P b d⟩⟩,Y⟩);rcases fm.cases with rfl|⟨p,j9,b,o,rfl⟩;rw[JB];exact⟨fZ,rfl,fun _=>⟨rfl,fun h=>by cases h⟩,(fun h=>by cases h),(fun h=>by cases h),ju,fun h=>by cases h⟩;rw[Av p];exact⟨fZ,rfl,(fun h=>by cases h),fun _=>⟨ok.un b (.here _ _ _ _ p),Good.rowAt fm,j9⟩,(fun _ h=>by cases h),ju,fun h=>by cases h⟩;(cases hh:sQ fl n with|none=>exact absurd hh hn|some blk=>obtain⟨u,C,N,a,cap,t,f,e⟩:=w6 hh;have hx:(C,PC.list N a cap t)∈fl:=wt f;rw[s f] at hl⊢;have U:=OC hx hl;exact⟨fun q=>q.2 ⟨_,hx,U⟩,.inr ⟨_,hx,U⟩,((A _ hx).un _ U).lt⟩);(cases hh:sQ fl n with|none=>exact absurd hh hn|some blk=>cases MA:sQ fl r with|none=>exact absurd MA E|some K=>obtain⟨u,m1,V,a1,vw,W,f,_⟩:=w6 hh;obtain⟨B,m2,Q,R,O,M,l,_⟩:=w6 MA;rw[s f] at hl⊢;rw[s l] at z⊢;intro I;exact qX f l (sub u B p) _ (OC (wt f) hl) (I▸OC (wt l) z));obtain⟨u,m1,V,a1,vw,W,f,_⟩:=w6 hn;obtain⟨B,m2,Q,R,O,M,l,_⟩:=w6 E;rw[s f] at d;rw[s l];exact fun F=>qX f l (sub u B p) b (L (wt f) b d) (L (wt l) b F);obtain⟨u,m1,V,a1,vw,W,f,_⟩:=w6 hn;rw[s f] at d;cases MA:sQ fl r with|none=>exact absurd MA E|some K=>obtain⟨B,m2,Q,R,O,M,l,_⟩:=w6 MA;rw[s l] at z⊢;rintro rfl;by_cases p:n=r;subst p;rw[f] at l;injection l with l;injection l with _ l;injection l with q1 q2 q3 q4;subst q1 q2 q3 q4;have hm:=wt f;obtain⟨sz,a,cap,xs,e,_,yw,_⟩:=(A _ hm).f6;have v:=G _ hm;injection e with D e2 e3 e4;subst D e2 e3 e4;rcases v.cases with rfl|⟨p,_,b,o,rfl⟩;rw[JB] at z;cases z;rw[Av p] at d;exact yw b o rfl d;exact qX f l (sub u B p) _ (L (wt f) _ d) (OC (wt l) z)
theorem VM {α:Type}:∀{s:List (Option Mode)} {xs:List α} {x:Mode×α},x∈hZ s xs->x.2∈xs
 |some m::fs,y::xs,x,h=>by simp only[hZ,zaa] at h;rcases h with rfl|h;simp;exact zaU _ (VM h)
 |none::fs,y::xs,x,h=>by simp only[hZ] at h;exact zaU _ (VM h)
 |[],_,x,h=>by simp[hZ] at h
 |some m::fs,[],x,h=>by simp[hZ] at h
 |none::fs,[],x,h=>by simp[hZ] at h
theorem LR {α:Type}:∀{sig:df} {xss:List (List α)} {x:Mode×α},x∈fx sig xss->∃xs∈xss,x.2∈xs
 |s::sig,xs::xss,x,h=>by simp only[fx,zaC] at h;rcases h with h|h;exact⟨xs,by simp,VM h⟩;obtain⟨ys,h1,h2⟩:=LR h;grind
 |[],_,x,h=>by simp[fx] at h
 |s::sig,[],x,h=>by simp[fx] at h
theorem OV {fl:List (Mode×PC)} (r:∀x∈fl,EB w x.1 x.2) (v:∀x∈fl,Good w x.2):∀(c:Nat) (k:List (Option Mode)) (ps:List PC),(∀(q:Nat) (x:Mode×PC),(hZ k ps)[q]? =some x->fl[c+q]? =some x)->(∀pc∈ps,Good w pc)-> (∀pc∈sC k ps,∀x∈fl,∀b,bB b pc->¬bB b x.2)->eN w (qx w fl) (sQ fl) (mg c k (ps.map PC.er)) (ps.map PC.val)
 |c,[],ps,hq,iN,hu=>by simp only[mg];refine⟨by simp,fun j x u d i=>?_⟩;simp only[GB,zac] at d i;cases hp:ps[j]? with|none=>simp_all|some pc=>rw[hp] at d i;simp at d i;subst d;subst i;have hm:=wt hp;exact⟨PC.nW pc,pc,rfl,rfl,iN pc hm,fun b l=>⟨(iN pc hm).lt l,fun⟨x,hx,s⟩=>hu pc (by simpa[sC] using hm) x hx b l s⟩⟩
 |c,f::k,[],hq,iN,hu=>by cases f<;>exact⟨rfl,by grind⟩
 |c,none::k,p::ps,hq,iN,hu=>by have n:=OV r v c k ps (fun q x h=>hq q x (by simpa[hZ] using h)) (fun pc h=>iN pc (by simp[h])) (fun pc h=>hu pc (by simp[sC,h]));simp only[By,mg];refine⟨by simp[n.1],fun j x u d i=>?_⟩;cases j with|zero=>simp at d i;subst d;subst i;exact⟨PC.nW p,p,rfl,rfl,iN p (by simp),fun b l=>⟨(iN p (by simp)).lt l,fun⟨x,hx,s⟩=>hu p (by simp[sC]) x hx b l s⟩⟩|succ j=>exact n.2 j x u (by grind) (by grind)
 |c,some m::k,p::ps,hq,iN,hu=>by have t:=hq 0 (m,p) (by simp[hZ]);simp only[zaE] at t;have y:=wt t;obtain⟨sz,a,cap,xs,e,fZ,yw,w7⟩:=(r _ y).f6;simp only at e;subst e;have n:=OV r v (c+1) k ps (fun q x h=>by have:=hq (q+1) x (by simpa[hZ] using h);first|grind|omega) (fun pc h=>iN pc (by simp[h])) (fun pc h=>hu pc (by simpa[sC] using h));simp only[By,PC.fk,mg];refine⟨by simp[n.1],fun j x u d i=>?_⟩;cases j with|zero=>simp at d i;subst d;subst i;refine⟨PC.nW _,fun _=>?_⟩;have A:(qx w fl).g (aY+c)=sk (.list sz a cap xs):=(by simp only[qx,zah,t]);rw[A];rcases(v _ y).cases with rfl|⟨z,j9,b,o,rfl⟩;rw[JB];exact .inl ⟨rfl,rfl,rfl,rfl⟩;rw[Av z];exact .inr ⟨rfl,some (ad b o),by simp[PC.val],by grind,fun _=>by simp⟩|succ j=>exact n.2 j x u (by grind) (by grind)
theorem abx {fl:List (Mode×PC)} (A:∀x∈fl,EB w x.1 x.2) (D:∀x∈fl,Good w x.2) {c:Nat} {s:List (Option Mode)} {d:Dv} {v:Value} {p:PA} (R:Ep w d v p)
  (y:∀(q:Nat) (x:Mode×PC),(hZ s p.ps)[q]? =some x->fl[c+q]? =some x) (t:∀pc∈sC s p.ps,∀x∈fl,∀b,bB b pc->¬bB b x.2) (L:p.k=.ptr->Rn s p.ps.length/\∀x∈fl,¬bB p.b x.2):
  RA w (qx w fl) (sQ fl) (vq c s d) v:=by
 obtain⟨k,ps,b,o⟩:=p;obtain⟨rfl,n,h⟩:=R;cases k with
 |one=>
  have h:ps.map PC.val=[v]:=h;have hl:=OV A D c s ps y n t;rw[h] at hl;simp only[vq];obtain⟨x,hx⟩:∃x,mg c s (ps.map PC.er)=[x]:=by
   have:=hl.1;match hh:mg c s (ps.map PC.er),this with
   |[x],_=>exact⟨x,rfl⟩
  rw[hx] at hl⊢;exact .inr hl
 |agg=>
  have h:v=.agg (ps.map PC.val).toArray:=h;exact⟨_,h,OV A D c s ps y n t⟩
 |ptr=>
  obtain⟨M,H,B⟩:v=.pointer (some (ad b o))/\b<w.heap.size/\∀j c,ps[j]? =some c->w.cell? (ad b (o+j))=some c.val:=h;obtain⟨O,E⟩:=L rfl;subst M;rcases O with rfl|⟨j,u,rfl⟩
  rotate_left
  ·obtain⟨f,q,rfl⟩:∃f q,ps=f++[q]:=⟨ps.dropLast,ps.getLast (by grind),(List.dropLast_concat_getLast _).symm⟩;have P:f.length=j:=by
    have:(f++[q]).length=j+1:=u;rw[List.length_append] at this;simpa using this
   subst P;rw[acS] at y;rw[aju] at t;have C:=y 0 (.bi,q) rfl;rw[zaE] at C;have I:=wt C;obtain⟨sz,a,cap,xs,e,fZ,yw,w7⟩:=(A _ I).f6;simp only at e;subst e;have J:vq c (zaG f.length none++[some .bi]) (K.ptr,(f++[PC.list sz a cap xs]).map PC.er)=.one (.dE ((f++[PC.list sz a cap xs]).map PC.er) 0 f.length (aY+c) sz xs.length):=by
    have F:zaG f.length (none:Option Mode)++[some .bi]≠[]:=by simp
    simp only[vq,Lj];split
    ·grind
    ·simp[PC.fk]
   rw[J];have S:=B f.length (PC.list sz a cap xs) (by simp);refine RA.iB rfl ⟨b,o,f++[PC.list sz a cap xs],by simp,rfl,⟨H,fun⟨x,hx,l⟩=>E x hx l⟩,fun i m lN N=>?_,_,S,PC.nW _,fun _=>?_⟩
   ·have hi':f[i]? =some m:=by
     by_cases cI:i<f.length
     ·first|grind|omega
     ·grind
    have hm:=wt hi';have G:m∈f++[PC.list sz a cap xs]:=List.mem_append_left _ hm;exact⟨B i m N,n m G,fun z r=>⟨(n m G).lt r,fun⟨x,hx,l⟩=>t m hm x hx z r l⟩⟩
   ·have Q:(qx w fl).g (aY+c)=sk (.list sz a cap xs):=by simp only[qx,zah,C]
    rw[Q];rcases(D _ I).cases with rfl|⟨F,j9,b,o,rfl⟩
    ·rw[JB];exact .inl ⟨rfl,rfl,rfl,rfl⟩
    ·rw[Av F];exact .inr ⟨rfl,some (ad b o),by simp[PC.val],by grind,fun _=>by simp⟩
  refine RA.iB rfl ⟨b,o,ps,by simp,rfl,⟨H,fun⟨x,hx,l⟩=>E x hx l⟩,fun j c u=>?_⟩;have hm:=wt u;exact⟨B j c u,n c hm,fun z r=>⟨(n c hm).lt r,fun⟨x,hx,l⟩=>t c (by simpa[sC] using hm) x hx z r l⟩⟩
theorem XU {fl:List (Mode×PC)} (m:∀x∈fl,EB w x.1 x.2) (o:∀x∈fl,Good w x.2):∀(ds:List Dv) (k c:Nat) (sig:df) (vals:List Value) (pas:List PA),vals.length=ds.length->pas.length=ds.length->
  (∀(i:Nat) (d:Dv) (v:Value) (p:PA),ds[i]? =some d->vals[i]? =some v->pas[i]? =some p->Ep w d v p)->(∀(q:Nat) (x:Mode×PC),(fx sig (pas.map (·.ps)))[q]? =some x->fl[c+q]? =some x)->
  (∀pc∈vg sig (pas.map (·.ps)),∀x∈fl,∀b,bB b pc->¬bB b x.2)->(∀p∈pas,p.k=.ptr->∀x∈fl,¬bB p.b x.2)->(∀(i:Nat) (p:PA) (s:List (Option Mode)),pas[i]? =some p->sig[i]? =some s->p.k=.ptr->Rn s p.ps.length)->
  ∀s,RA w (qx w fl) (sQ fl) (rn k c sig ds s) (if k<=s then vals.getD (s - k) undef else undef)
 |[],k,c,sig,vals,pas,l1,l2,hA,hq,hu,hp,hs,s=>by simp only[rn];exact Or.inl rfl
 |d::ds,k,c,sig,v::vals,p::pas,l1,l2,hA,hq,hu,hp,hs,s=>by
  have l:vals.length=ds.length:=by simpa using l1
  have j:pas.length=ds.length:=by simpa using l2
  have n:=hA 0 d v p rfl rfl rfl;have A:=fun i y B u (C:ds[i]? =some y) (D:vals[i]? =some B) (h3:pas[i]? =some u)=>hA (i+1) y B u (by grind) (by grind) (by grind);have iN:=n.2.1;have t:d.2=p.ps.map PC.er:=by rw[n.1]
  have a:∀x:aw,(s≠k->RA w (qx w fl) (sQ fl) x (if k+1<=s then vals.getD (s - (k+1)) undef else undef))->s≠k->RA w (qx w fl) (sQ fl) x (if k<=s then(v::vals).getD (s - k) undef else undef):=by
   intro x hx f;have:=hx f;by_cases z:k+1<=s
   ·rw[ai z] at this;rw[ai (by omega),show s - k=(s - (k+1))+1 by omega];simpa using this
   ·rw[aq z] at this;rw[aq (by omega)];exact this
  cases sig with
  |nil=>
   simp only[rn];by_cases f:s=k
   ·subst f;rw[dd,ai (zad _)];simp only[za6,zaV];refine abx m o n (fun q x h=>by simp[hZ] at h) (fun pc g=>hu pc ?_) (fun e=>⟨.inl rfl,hp p (by simp) e⟩);simp only[sC] at g;simp[vg,g]
   ·rw[dP _ _ _ _ f];refine a _ (fun _=>XU m o ds (k+1) c [] vals pas l j A (fun q x h=>by simp[fx] at h) (fun pc g=>hu pc ?_) (fun p r=>hp p (by simp[r])) (fun i p s _ h=>by simp at h) s) f;simp only[vg] at g;simp only[By,vg,List.flatten_cons,zaC]
    grind
  |cons sg sig=>
   simp only[rn];have hlen:(hZ sg d.2).length=(hZ sg p.ps).length:=by rw[t,Py,AI]
   by_cases f:s=k
   ·subst f;rw[dd,ai (zad _)];simp only[za6,zaV];refine abx m o n (fun q x h=>hq q x ?_) (fun pc g=>hu pc ?_) (fun e=>⟨hs 0 p sg rfl rfl e,hp p (by simp) e⟩)
    ·simp only[By,fx]
     grind
    grind [vg]
   ·rw[dP _ _ _ _ f];refine a _ (fun _=>XU m o ds (k+1) (c+(hZ sg d.2).length) sig vals pas l j A (fun q x h=>?_) (fun pc g=>hu pc ?_) (fun p r=>hp p (by simp[r])) (fun i p s C D=>hs (i+1) p s (by grind) (by grind)) s) f
    ·have:=hq ((hZ sg p.ps).length+q) x (by
      simp only[By,fx];rw[List.getElem?_append_right (zaO _ _),zah];exact h)
     grind
    grind [vg]
 |_::_,k,c,sig,[],pas,l1,l2,hA,hq,hu,hp,hs,s=>by simp at l1
 |_::_,k,c,sig,_::_,[],l1,l2,hA,hq,hu,hp,hs,s=>by simp at l2
theorem aby {c:Nat} {s:List (Option Mode)} {d:Dv} {m:Nat} (h:(vq c s d).ref m):aY<=m:=by
 have a:∀(cs:List C) (c:Nat) (s:List (Option Mode)),∀x∈mg c s cs,x.ref m->aY<=m:=by
  intro cs;induction cs with
  |nil=>
   intro c s x hx;cases s with
   |nil=>simp[mg] at hx
   |cons f e=>cases f<;>simp[mg] at hx
  |cons y cs ih=>
   intro c s x hx hr;cases s with
   |nil=>
    simp only[mg,zab] at hx;obtain⟨z,_,rfl⟩:=hx;exact absurd hr id
   |cons f e=>
    cases f with
    |none=>
     simp only[mg,zaa] at hx;rcases hx with rfl|hx
     ·exact absurd hr id
     grind
    |some md=>
     cases y with
     |list sz xs=>
      simp only[mg,zaa] at hx;rcases hx with rfl|hx
      ·have hr:m=aY+c:=hr;omega
      grind
     |int k n=>
      simp only[mg,zaa] at hx;rcases hx with rfl|hx
      ·exact absurd hr id
      grind
     |bool b=>
      simp only[mg,zaa] at hx;rcases hx with rfl|hx
      ·exact absurd hr id
      grind
 obtain⟨k,xs⟩:=d;cases k with
 |one=>
  simp only[vq] at h;match hh:mg c s xs,h with
  |[],h=>exact absurd h id
  |[x],h=>exact a xs c s x (by rw[hh];simp) h
  |_::_::_,h=>exact absurd h id
 |agg=>
  obtain⟨x,hx,hr⟩:=h
  grind
 |ptr=>
  simp only[vq,Lj] at h;split at h
  ·exact absurd h id
  ·split at h
   ·have h':m=aY+c:=h;omega
   ·exact absurd h id
theorem XV:∀{ds:List Dv} {k c:Nat} {sig:df} {s m:Nat},(rn k c sig ds s).ref m->aY<=m
 |[],k,c,sig,s,m,h=>by simp only[rn] at h;exact absurd h id
 |d::ds,k,c,[],s,m,h=>by simp only[rn,mZ] at h;split at h;exact aby h;exact XV h
 |d::ds,k,c,sg::sig,s,m,h=>by simp only[rn,mZ] at h;split at h;exact aby h;exact XV h
theorem R.Nm {sig:df} {ds:List Dv} {vals:List Value} {pas:List PA} (M:CK w sig ds vals pas) (hN:ds.length<=N):
  R w.heap.size (wX (fx sig (pas.map (·.ps)))) w N (r5 sig ds) {tmps:=vals.toArray++zaj (N - vals.toArray.size) undef,defers:=[]} w (qx w (fx sig (pas.map (·.ps)))):=by
 have A:ds.map (·.2)=(pas.map (·.ps)).map fun l=>l.map PC.er:=by
  apply zaJ;intro i;simp only[GB];cases hd:ds[i]? with
  |none=>
   have:ds.length<=i:=zaH.1 hd;rw[zal (by rw[M.l2];exact this)];rfl
  |some d=>
   have f:=(If.1 hd).1;have o:vals[i]? =some (vals[i]'(by rw[M.l1];exact f)):=AN _;have c:pas[i]? =some (pas[i]'(by rw[M.l2];exact f)):=AN _;have:=(M.at_ i d _ _ hd o c).1;rw[c];simp only[AT];rw[this]
 have E:∀p∈pas,∀pc∈p.ps,Good w pc:=by
  intro p c pc C;obtain⟨i,f,rfl⟩:=zas c;have hd:ds[i]? =some (ds[i]'(by rw[<-M.l2];exact f)):=AN _;have o:vals[i]? =some (vals[i]'(by rw[M.l1,<-M.l2];exact f)):=AN _;exact(M.at_ i _ _ _ hd o (AN f)).2.1 pc C
 have v:∀x∈fx sig (pas.map (·.ps)),Good w x.2:=by
  intro x hx;obtain⟨l,hl,z⟩:=LR hx;obtain⟨p,c,rfl⟩:=zab.1 hl;exact E p c _ z
 have t:(r5 sig ds).h=sQ (fx sig (pas.map (·.ps))):=by
  funext n;simp only[r5,sQ,A,HX]
 refine⟨rfl,by simp[M.l1];omega,fun s=>?_,fun s n hn=>OF (XV hn),?_,Fr.refl _ _ _ (zad _),fun n p b c u=>?_,fun n hn=>OF hn⟩
 ·rw[t];have:=XU M.ok v ds 0 0 sig vals pas M.l1 M.l2 M.at_ (fun q x h=>by simp_all) M.free M.ptr M.ar4 s;simp only[zaB,if_true,zag] at this;have e:(vals.toArray++zaj (N - vals.toArray.size) undef).getD s undef=vals.getD s undef:=by
   simp only[zak,zao];by_cases cI:s<vals.length
   ·grind
   ·grind
  rw[e];exact this
 ·rw[t];exact HR.Nm v M.ok M.qX
 ·rw[t] at u;obtain⟨F,m,sz,a,cap,xs,y,e⟩:=w6 u;have r:(if aY<=n then((fx sig (pas.map (·.ps)))[n - aY]?).map (fun x=>sk x.2) else none)=some p:=c
  rw[ai F,y] at r;simp at r;subst r;have D:(qx w (fx sig (pas.map (·.ps)))).g n=sk (.list sz a cap xs):=by simp only[qx,y]
  rw[D];exact⟨rfl,rfl,rfl,rfl,rfl,fun gr bf aM _ k j pc B hL=>⟨pc,B,rfl,hL⟩⟩
theorem Q6:∀{fl:List (Mode×C)} {q:Nat} {a:List C},Au σ q fl=some a->a.length=fl.length/\∀i x,fl[i]? =some x->∃o,a[i]? =some o/\Gi σ (q+i) x=some o
 |[],q,a,h=>by simp_all [Au]
 |y::l,q,a,h=>by simp only[Au] at h;split at h;rename_i o os h1 c;injection h with h;subst h;obtain⟨d,b⟩:=Q6 c;refine⟨by simp[d],fun i x hx=>?_⟩;(cases i with|zero=>simp_all|succ i=>obtain⟨o',e1,e2⟩:=b i x (by simpa using hx);grind);cases h
theorem aso {q:Nat} {x:Mode×C} {o:C} (h:Gi σ q x=some o):∃sz xs b a,x.2=.list sz xs/\σ.h (aY+q)=some (.row b x.1 sz a)/\a.length=xs.length/\zD x.1 a=true/\a.map (fun e=>e.map C.xl)=xs.map (fun e=>e.map C.xl)/\o=.list sz a:=by grind [Gi]
theorem alt {px:List (List PC)} (hd:(px.map fun e=>e.map PC.er).all (fun e=>e.all C.zA)=true) {k j:Nat} {c:PC} (f:At px k j c):∀sz a cap ys,c=.list sz a cap ys->∀b,¬bK b ys:=by rintro sz a cap ys rfl b;obtain⟨e,h,g⟩:=f;simp only[zaA,zab] at hd;have d:=hd (e.map PC.er) ⟨e,wt h,rfl⟩ (PC.er (.list sz a cap ys)) (zab.2 ⟨_,wt g,rfl⟩);rw[PC.fk] at d;exact AA d b
theorem PC.apa (c:PC):c.er.xl=c.kO:=by cases c with|int k n=>rfl|bool b=>rfl|list sz a cap xs=>rw[PC.fk];rfl
theorem awe {px px':List (List PC)} (g:(px'.map fun e=>e.map PC.er).map (fun e=>e.map C.xl)=(px.map fun e=>e.map PC.er).map (fun e=>e.map C.xl)) {k j:Nat} {c:PC} (h:At px' k j c): ∃d,At px k j d/\d.kO=c.kO:=by obtain⟨e,m,i⟩:=h;have b:=congrArg (fun l=>l[k]?) g;simp only[GB,m,AT] at b;cases h0:px[k]? with|none=>simp_all|some f=>rw[h0] at b;simp only[AT,Pd] at b;have a:=congrArg (fun l=>l[j]?) b;simp only[GB,i,AT] at a;cases h3:f[j]? with|none=>simp_all|some d=>rw[h3] at a;simp only[AT,Pd,PC.apa] at a;exact⟨d,⟨f,h0,h3⟩,a.symm⟩
theorem At.inj {α:Type} {px:List (List α)} {k j:Nat} {c a:α} (h:At px k j c) (h':At px k j a):c=a:=by obtain⟨e,h1,h2⟩:=h;obtain⟨e',h3,h4⟩:=h';simp_all
theorem afR {px px':List (List PC)} (hd:(px.map fun e=>e.map PC.er).all (fun e=>e.all C.zA)=true) (hl:∀k j pc,At px k j pc->pc.kO=true->∃g,At px' k j g/\g.val=pc.val/\g.kO=true) {b:Nat} (q:bK b px):bK b px':=by obtain⟨k,j,c,i,d⟩:=q;cases c with|int k n=>exact absurd d bB.ar6|bool x=>exact absurd d bB.ar5|list sz a cap ys=>have u:=alt hd i sz a cap ys rfl;rw[bB.oZ] at d;rcases d with⟨bm,o,rfl⟩|⟨k',r,f,m,s⟩;obtain⟨f,t,l,h⟩:=hl k j _ i rfl;(cases f with|int k n=>cases h|bool x=>cases h|list bf a' oJ ys'=>simp only[PC.val] at l;injection l with p e2 e3;subst p;refine⟨k,j,_,t,?_⟩;grind [bB.oZ]);exact absurd ⟨k',r,f,m,s⟩ (u b)
theorem B9 {n:Nat} {b:aV} (hn:σ.oB.h n=some b):¬aY<=n/\σ.h n=some b:=by simp_all [St.oB]
theorem Jt {n:Nat} (hn:σ.oB.h n≠none):¬aY<=n/\σ.h n≠none:=by cases h:σ.oB.h n with|none=>simp_all|some b=>obtain⟨a,e⟩:=B9 h;simp_all
theorem bU.oB (u:Nat->Prop):bU w G σ.h u w G σ.oB.h:= ⟨fun _ h=>h,fun _ _ _=>rfl,fun n _ hn=>⟨(Jt hn).2,rfl,rfl,rfl,rfl,rfl⟩,fun n b sz xs _ hn=>⟨⟨b,xs,(B9 hn).2⟩,fun k j pc c a=>⟨pc,c,rfl,a⟩⟩⟩
theorem R.oB (r:R B E w0 N σ a w G) (J:∀b,E b->∃n f m sz xs,aY<=n/\σ.h n=some (.row f m sz xs)/\m≠ .bh/\ra G n b/\(m=.bi->¬bK b (G.g n).px)): R B Ex.no w N σ.oB a w G:=by have H:=r.hr;have K:bU w G σ.h (fun n=>σ.used n=true) w G σ.oB.h:=bU.oB _;have big:∀n,¬aY<=n->σ.h n≠none->(G.g n).nl=false->¬E (G.g n).b:=(by intro n hn i hl d;obtain⟨q,f,m,sz,xs,y,A,D,t,P⟩:=J _ d;have C:n≠q:=fun e=>hn (e▸y);have T:σ.h q≠none:=(by rw[A];simp);rcases t with⟨l,e⟩|t;exact H.inj n q i T C hl l e;cases m with|bh=>exact D rfl|bi=>grind|live=>exact H.live q f sz xs A _ t n i hl rfl);have z:∀n f m sz xs,¬aY<=n->σ.h n=some (.row f m sz xs)->m≠ .bh->∀b,bK b (G.g n).px->¬E b:=(by intro n f m sz xs hn i hm b d o;obtain⟨q,F,O,L,M,y,A,D,t,P⟩:=J _ o;have C:n≠q:=fun e=>hn (e▸y);exact H.aeb C i A hm D (.inr d) t);refine⟨r.defers,r.size,fun s=>(r.env s).d9 K fun m hm=>r.tP s m hm,r.tP,?_,Fr.refl _ _ _ r.fr.size,fun n p b k=>(by cases k),r.Aw⟩;refine⟨fun n hn=>H.mM n (Jt hn).2,fun m cs c n hm U hr=>H.lz m cs c n (B9 hm).2 U hr,fun n cs hn=>?_,fun n f m sz xs hn=>?_,fun n hn hl=>?_,fun n u hn x=>H.inj n u (Jt hn).2 (Jt x).2, H.jG,fun b _=>.inr (.inr trivial),fun n u f m sz xs F O L M hn x=>H.jE n u f m sz xs F O L M (B9 hn).2 (B9 x).2,fun n f sz xs hn b d u x=>H.live n f sz xs (B9 hn).2 b d u (Jt x).2,?_,?_,?_⟩;obtain⟨W,Q,X⟩:=H.box n cs (B9 hn).2;refine⟨W,Q,fun j c I=>?_⟩;obtain⟨v,S,V,Y⟩:=X j c I;exact⟨v,S,V,Y.d9 K fun q y=>H.lz n cs c q (B9 hn).2 (wt I) y⟩;obtain⟨k,i⟩:=B9 hn;have hr:=H.row n f m sz xs i;refine⟨hr.pos,hr.er,hr.nl,hr.f6,hr.room,?_,hr.nr⟩;have hm:=hr.mode;(cases m with|bh=>exact hm|bi=>exact⟨fun b d=>⟨(hm.1 b d).1,(hm.1 b d).2.1,(hm.1 b d).2.2.imp id fun o=>absurd o (z n f .bi sz xs k i (by simp) b d)⟩,hm.2⟩|live=>exact⟨fun b d=>⟨(hm.1 b d).1,(hm.1 b d).2.1,(hm.1 b d).2.2.imp id fun o=>absurd o (z n f .live sz xs k i (by simp) b d)⟩,hm.2⟩);obtain⟨k,i⟩:=Jt hn;obtain⟨o1,o2,o3⟩:=H.own n i hl;grind;grind;grind;grind
theorem anp {m:Mode} {px:List (List PC)} (a:zD m (px.map fun e=>e.map PC.er)=true):(m=.bi->∀b,¬bK b px)/\m≠ .bh/\(m=.live->(px.map fun e=>e.map PC.er).all (fun e=>e.all C.zA)=true):=by cases m with|bh=>cases a|bi=>exact⟨fun _ b=>AA a b,(by simp),fun h=>(by cases h)⟩|live=>exact⟨fun h=>(by cases h),(by simp),fun _=>a⟩
theorem Lg {fl:List (Mode×PC)} (fM:∀x∈fl,EB w0 x.1 x.2) (hg:∀x∈fl,Good w0 x.2) (r:R B (wX fl) w0 N σ a w G) {W:List C} (ho:Au σ 0 (fl.map fun x=>(x.1,x.2.er))=some W)
  {i:Nat} {x:Mode×PC} (hx:fl[i]? =some x):∃q o,W[i]? =some o/\q.er=o/\vl w x.1 x.2 q/\
   ∃s sz xs,σ.h (aY+i)=some (.row s x.1 sz xs)/\(∀b,bB b x.2->ra G (aY+i) b)/\(x.1=.bi->∀b,¬bK b (G.g (aY+i)).px)/\x.1≠ .bh:=by
 obtain⟨m,pc⟩:=x;have lP:=wt hx;obtain⟨o1,o2⟩:=Q6 ho;obtain⟨o,e1,e2⟩:=o2 i (m,pc.er) (by grind);rw[za4] at e2;obtain⟨sz,xs,s,u,X,v,f3,f4,f5,rfl⟩:=aso e2;have ok:=fM _ lP;have Q:=hg _ lP;obtain⟨n,a0,cap,H,rfl,fZ,yw,Y⟩:=ok.f6;simp only[PC.fk] at X;injection X with O f1b;subst O;subst f1b;have hr:=r.hr.row _ s m n u v;have sY:(wX fl).qg (aY+i)=some (sk (.list n a0 cap H)):=by
  show(if aY<=aY+i then(fl[aY+i - aY]?).map (fun x=>sk x.2) else none)=_
  rw[ai (zaO _ _),zah,hx];rfl
 obtain⟨p1,F,V,p4,p6,p5⟩:=r.qg _ _ _ sY v;have z:u=(G.g (aY+i)).px.map fun e=>e.map PC.er:=hr.er;have I:=f4;simp only at I;rw[z] at I;obtain⟨S,P,q3⟩:=anp I;have l:(G.g (aY+i)).px.length=H.length:=by
  have:=f3;rw[z] at this;simpa using this
 have E:me (G.g (aY+i)).px:=by
  have hm:=hr.mode;cases m with
  |bh=>grind
  |bi=>exact hm.2
  |live=>exact hm.2
 have bm:σ.h (aY+i)≠none:=by rw[v];simp
 rcases Q.cases with rfl|⟨J,j9,b,o,rfl⟩
 ·have T:(G.g (aY+i)).px=[]:=IT (by omega);refine⟨.list n a0 cap [],_,e1,(by rw[PC.fk,z,T]),⟨rfl,.nil _ _ _ fZ,ok.sep,fun _ h=>h,?_,?_⟩,s,n,u,v,fun f d=>?_,fun hm f d=>S hm f d,P⟩
  ·simp only[PC.fk];omega
  ·grind
  ·rw[bB.oZ] at d;rcases d with⟨d,_⟩|⟨k,j,c,⟨e,y,_⟩,_⟩
   ·grind
   ·simp at y
 ·have Z:m=.live->∀k j c,At H k j c->c.kO=true->∃L,At (G.g (aY+i)).px k j L/\L.val=c.val/\L.kO=true:=by
   rintro rfl k j c p hL;rw[Av J] at p5;exact p5 s n u rfl k j c p hL
  rw[Av J] at p1 F V p4;simp only at p1 F V p4;obtain⟨l1,l2,l3⟩:=hr.f6 p1;rw[F] at l1 l2;rw[V] at l2;rw[p4] at l3;have M:(G.g (aY+i)).px≠[]:=by
   intro h0;rw[h0] at l;exact J (IT l.symm)
  have iE:Good w (.list n (some (ad b o)) cap (G.g (aY+i)).px):=.cons _ _ _ _ _ M l3 fZ l2.1 l2.2.1 l2.2.2;have K:¬bK b (G.g (aY+i)).px:=by
   intro hb;cases m with
   |bh=>exact P rfl
   |bi=>grind
   |live=>exact r.hr.live _ s n u v b hb _ bm p1 F.symm
  have Ww:m=.live->∀f,bK f (G.g (aY+i)).px->bK f H:=by
   rintro rfl f d;refine afR (px':=H) (q3 rfl) (fun k j c p hL=>?_) d;rw[z] at f5;obtain⟨c0,A,U⟩:=awe f5 p;rw[hL] at U;obtain⟨c1,Fh,nN,hL1⟩:=Z rfl k j c0 A U;rw[At.inj Fh p] at nN;exact⟨c0,A,nN.symm,U⟩
  refine⟨.list n (some (ad b o)) cap (G.g (aY+i)).px,_,e1,by rw[PC.fk,z],⟨by simp only[PC.val,l],iE,.list _ _ _ _ E.1 (fun b1 o1 k j c y p PS=>?_) E.2,fun f d=>?_,?_,?_⟩,s,n,u,v,fun f d=>?_,S,P⟩
  ·injection y with y;obtain⟨rfl,_⟩:=pn y;exact K ⟨k,j,c,p,PS⟩
  ·rw[bB.oZ] at d;rcases d with⟨_,o',t⟩|D
   ·injection t with t;rw[<-(pn t).1];exact .here _ _ _ _ J
   ·cases m with
    |bh=>grind
    |bi=>exact absurd D (S rfl f)
    |live=>
     obtain⟨k,j,c,p,hc⟩:=Ww rfl f D;exact .there _ _ _ _ k j c p hc
  ·simp only[PC.fk];exact I
  ·intro sz a oJ xs bf a' axk ko WL PW;injection WL with h1 h2 h3 h4;injection PW with g1 g2 g3 g4;subst h1 h2 h3 h4 g1 g2 g3 g4
   grind
  ·rw[bB.oZ] at d;rcases d with⟨_,o',t⟩|D
   ·injection t with t;exact .inl ⟨p1,by rw[F];exact(pn t).1.symm⟩
   ·cases m with
    |bh=>grind
    |bi=>exact absurd D (AA Y f)
    |live=>exact .inr (afR Y (Z rfl) D)
theorem arO (W:pQ P T) (hm:P.follows .mixedOrders=true) {f:FuncId} {fn:Func} {c:Code} {B:mH} {ms:List bO} {sig:df} {M:List Dv->Option (List Dv×List C)} (hf:P.funcs[f]? =some fn) (hb:fn.body=some c)
  (V:lF P fn.ntmps c B=true) (hr:pT P fn.results.toList ms=true) (hM:∀ds t u,M ds=some (t,u)->ds.length<=fn.ntmps/\RG T B ms sig ds=some (t,u)):zi P f sig M:=by
 intro ds t u lL w vals pas k;obtain⟨hN,s⟩:=hM ds t u lL;refine calls_of_wp hf hb ?_;have U:=R.Nm (N:=fn.ntmps) k hN;have Z:∀p∈pas,∀pc∈p.ps,Good w pc:=by
  intro p y pc bZ;obtain⟨i,j,rfl⟩:=zas y;have hd:ds[i]? =some (ds[i]'(by rw[<-k.l2];exact j)):=AN _;have F:vals[i]? =some (vals[i]'(by rw[k.l1,<-k.l2];exact j)):=AN _;exact(k.at_ i _ _ _ hd F (AN j)).2.1 pc bZ
 have Q:∀x∈fx sig (pas.map (·.ps)),Good w x.2:=by
  intro x hx;obtain⟨l,hl,tc⟩:=LR hx;obtain⟨p,y,rfl⟩:=zab.1 hl;exact Z p y _ tc
 have Mr:ds.map (·.2)=(pas.map (·.ps)).map fun l=>l.map PC.er:=by
  apply zaJ;intro i;simp only[GB];cases hd:ds[i]? with
  |none=>
   have:ds.length<=i:=zaH.1 hd;rw[zal (by rw[k.l2];exact this)];rfl
  |some d=>
   have j:=(If.1 hd).1;have F:vals[i]? =some (vals[i]'(by rw[k.l1];exact j)):=AN _;have y:pas[i]? =some (pas[i]'(by rw[k.l2];exact j)):=AN _;have:=(k.at_ i d _ _ hd F y).1;rw[y];simp only[AT];rw[this]
 unfold RG at s;rw[Mr,HX] at s;generalize lM:fx sig (pas.map (·.ps))=fl at s U Q;have D:=k.ok;rw[lM] at D;have jg:∀{σ:St} {a:Act} {w':World} {G:Gh},σ.Az ms (fl.map fun x=>(x.1,x.2.er))=some (t,u)->R w.heap.size (wX fl) w fn.ntmps σ a w' G->a.defers=[]/\∃v,(results fn a.tmps).run P w'=.ok v w'/\
   ∃z:List (K×List PC),z.map (fun p=>(p.1,p.2.map PC.er))=t/\(Ending.returned v)=.returned (yW z)/\(∀p∈z,p.1≠ .ptr/\(p.1=.one->p.2.length=1))/\
   xW w' w.heap.size (z.flatMap (·.2))/\Fr w.heap.size (C8 fl) w w'/\
   ∃S:List PC,S.map PC.er=u/\S.length=fl.length/\∀(i:Nat) (x:Mode×PC) (q:PC),fl[i]? =some x->S[i]? =some q->vl w' x.1 x.2 q:=by
  intro σ a w' G hx r;unfold St.Az at hx;split at hx
  ·rename_i pf Y2 e1 O;injection hx with hx;injection hx with nk fT;subst nk fT;have hE:∀b,(wX fl) b->∃n E m sz xs,aY<=n/\σ.h n=some (.row E m sz xs)/\m≠ .bh/\ra G n b/\(m=.bi->¬bK b (G.g n).px):=by
    rintro b ⟨x,BL,Y⟩;obtain⟨i,j⟩:=zap BL;obtain⟨q,o,_,_,_,E,sz,xs,J,L,H,X⟩:=Lg D Q r O j;exact⟨aY+i,E,x.1,sz,xs,zaO _ _,J,X,L b Y,fun hm=>H hm b⟩
   obtain⟨z,p1,p2,p3,p4⟩:=Zp (r.oB hE) hr e1;obtain⟨ol,_⟩:=Q6 O;have I:∀i:Fin fl.length,∃q,Y2[i.1]? =some (PC.er q)/\vl w' (fl[i.1]).1 (fl[i.1]).2 q:=by
    intro i;obtain⟨q,o,J,L,H,_⟩:=Lg D Q r O (AN i.2);exact⟨q,by rw[J,L],H⟩
   refine⟨r.defers,_,p2,z,p1,rfl,p3,p4,⟨r.fr.os,r.fr.tape,r.fr.output,r.fr.size,r.fr.block,r.fr.mY⟩,List.ofFn fun i=>Classical.choose (I i),?_,by simp,fun i x q j A=>?_⟩
   ·apply zaJ;intro i;simp only[GB];by_cases j:i<fl.length
    ·rw[zaW,dif_pos j];exact(zaS (I ⟨i,j⟩)).1.symm
    ·rw[zal (by simp;omega),zal (by rw[ol];simp;omega)];rfl
   ·obtain⟨hl,e⟩:=If.1 j;rw[zaW,dif_pos hl] at A;injection A with A;subst A;subst e;exact(zaS (I ⟨i,hl⟩)).2
  ·cases hx
 split at s
 ·rename_i σ e;exact nI W hm B V e U fun a w' G r=>jg s r
 ·rename_i σ e;exact nI W hm B V e U fun a w' G r=>jg s r
 ·cases s
end
def Li:Dv->aw
 |(.one,[x])=>.one (.c x)
 |(.one,_)=>.one .cj
 |(.agg,xs)=>.agg (xs.map .c)
 |(.ptr,_)=>.one (.ptr aY 0 0 0)
def z9:Nat->List Dv->(Nat->aw)
 |_,[]=>C5
 |k,d::ds=>aN (z9 (k+1) ds) k (Li d)
def sr:List Dv->Option (List C)
 |[]=>none
 |(.ptr,xs)::_=>some xs
 |_::ds=>sr ds
def v9 (ds:List Dv):Nat->Option aV:=fun n=>match zav n aY with
 |true=>(sr ds).map fun xs=>.box (xs.map .c)
 |false=>none
def Nn (ds:List Dv):St:={env:=z9 0 ds,h:=v9 ds,used:=fun n=>zau aY n}
theorem ajv (ds:List Dv) (n:Nat) (hn:aY<=n):(Nn ds).used n=true:=OF hn
def xC (h:Nat->Option aV):List aw->Option (List Dv)
 |[]=>some []
 |v::vs=>match v.cells? with
  |some (ag,cs)=>match mb h cs,xC h vs with
   |some xs,some ds=>some ((if ag=true then .agg else .one,xs)::ds)
   |_,_=>none
  |none=>none
def N3 (h:Nat->Option aV):List aw->Option (List Dv)
 |[v]=>match vt h v with
  |some (n,xs)=>if aY<=n then none else some [(.ptr,xs)]
  |none=>xC h [v]
 |vs=>xC h vs
def Q7 (h:Nat->Option aV):Option (List C)->Option (List C)
 |none=>some []
 |some xs=>match h aY with
  |some (.box cs)=>if cs.length=xs.length then oQ cs else none
  |_=>none
def JP (h:Nat->Option aV):Bool->List aw->Option (List Dv)
 |false,vs=>N3 h vs
 |true,vs=>match rE h vs with
  |some (ds,ns)=>if ns.Nodup then some ds else none
  |none=>none
def Gg (h:Nat->Option aV):Bool->Option (List C)->Option (List C)
 |false,x=>Q7 h x
 |true,none=>some []
 |true,some _=>match h aY with
  |some (.box _)=>some []
  |_=>none
def St.JQ (ow:Bool) (σ:St) (ms:List bO) (ds:List Dv):Option (List Dv×List C):=
 match σ.su ms with
 |some vs=>match JP σ.h ow vs,Gg σ.h ow (sr ds) with
  |some rs,some out=>some (rs,out)
  |_,_=>none
 |none=>none
def RH (ow:Bool) (T:bz) (mc:mH) (aC:List bO) (ds:List Dv):Option (List Dv×List C):=
 match e9 T mc (Nn ds) with
 |some (.gT σ)=>σ.JQ ow aC ds
 |some (.ret σ)=>σ.JQ ow aC ds
 |_=>none
section
variable {B N:Nat} {E:Ex} {w0 w w':World} {G G':Gh} {h h':Nat->Option aV} {used:Nat->Bool} {P:Program} {T:bz} {a:Act} {σ σ':St} {Q:Exit->Act->World->Prop}
theorem XW:∀(ds:List Dv) (k n:Nat),z9 k ds n=if k<=n then(match ds[n - k]? with|some d=>Li d|none=>.one .cj) else .one .cj
 |[],k,n=>by simp[z9,C5]
 |d::ds,k,n=>by simp only[z9,mZ,XW ds];grind
theorem XY {ds:List Dv} {n:Nat} {b:aV} (hn:v9 ds n=some b):n=aY/\∃xs,sr ds=some xs/\b=.box (xs.map .c):=by unfold v9 at hn;split at hn;rename_i e;have:=zay e;subst this;refine⟨rfl,?_⟩;(cases hp:sr ds with|none=>simp_all|some xs=>simp_all);cases hn
def mq:List PA->Option PA
 |[]=>none
 |p::ps=>if p.k=.ptr then some p else mq ps
theorem LF:∀{pas:List PA} {p:PA},mq pas=some p->p∈pas/\p.k=.ptr
 |[],p,h=>by cases h
 |q::pas,p,h=>by unfold mq at h;split at h;simp_all;obtain⟨h1,h2⟩:=LF h;simp_all
theorem Vn:∀{pas:List PA},mq pas=none->∀p∈pas,p.k≠ .ptr
 |[],_,p,a=>by cases a
 |q::pas,h,p,a=>by unfold mq at h;split at h;cases h;rename_i b;cases a with|head=>exact b|tail _ a=>exact Vn h p a
theorem Zh:∀{ds:List Dv} {pas:List PA},pas.length=ds.length->(∀(i:Nat) (d:Dv) (p:PA),ds[i]? =some d->pas[i]? =some p->d=(p.k,p.ps.map PC.er))->sr ds=(mq pas).map fun p=>p.ps.map PC.er
 |[],[],_,_=>rfl
 |[],_::_,hl,_=>by simp at hl
 |_::_,[],hl,_=>by simp at hl
 |d::ds,p::pas,hl,hd=>by have e:=hd 0 d p rfl rfl;have a:=Zh (ds:=ds) (pas:=pas) (by simpa using hl) (fun i d p f c=>hd (i+1) d p f c);subst e;obtain⟨k,ps,b,o⟩:=p;cases k with|ptr=>rfl|one=>simpa[sr,mq] using a|agg=>simpa[sr,mq] using a
def DY (p:PA):PB:=⟨false,p.b,p.o,0,[],none⟩
def LQ (pas:List PA):Ex:=
 ⟨fun b=>∃p∈pas,p.k=.ptr/\b=p.b,fun n=>if n=aY then(mq pas).map DY else none,fun n p h=>(by
  simp_all),fun b=>∃q∈pas,∃pc∈q.ps,bB b pc⟩
def De (pas:List PA):Gh:=⟨fun b=>∃q∈pas,∃pc∈q.ps,bB b pc,fun n=>match mq pas with|some p=>DY p|none=>default⟩
theorem R.ao0 {ds:List Dv} {vals:List Value} {pas:List PA} (l:Uz w ds vals pas) (hN:ds.length<=N):
  R w.heap.size (LQ pas) w N (Nn ds) {tmps:=vals.toArray++zaj (N - vals.toArray.size) undef,defers:=[]} w (De pas):=by
 have hl:=l.l1;have W:sr ds=(mq pas).map fun p=>p.ps.map PC.er:=by
  refine Zh l.l2 fun i d p hd r=>?_;have B:vals[i]? =some (vals[i]'(by grind)):=AN _;exact(l.at_ i d _ p hd B r).1
 have T:∀q∈pas,∀pc∈q.ps,Good w pc:=by
  intro q h pc C;obtain⟨i,E,rfl⟩:=zas h;have hd:ds[i]? =some (ds[i]'(by rw[<-l.l2];exact E)):=AN _;have B:vals[i]? =some (vals[i]'(by grind)):=AN _;exact(l.at_ i _ _ _ hd B (AN E)).2.1 pc C
 have Q:∀q∈pas,q.k=.ptr->OO w q.b q.o q.ps/\∃v:Value,v∈vals/\v=.pointer (some (ad q.b q.o)):=by
  intro q h hk;obtain⟨i,E,rfl⟩:=zas h;have hd:ds[i]? =some (ds[i]'(by rw[<-l.l2];exact E)):=AN _;have B:vals[i]? =some (vals[i]'(by grind)):=AN _;have L:=(l.at_ i _ _ _ hd B (AN E)).2.2;rw[hk] at L;exact⟨L.2.2,_,wt B,L.1⟩
 have cell:∀q∈pas,∀pc∈q.ps,RC w (De pas) (v9 ds) (.c pc.er) pc.val:=fun q h pc C=>⟨pc,rfl,rfl,T q h pc C,fun b t=>⟨q,h,pc,C,t⟩⟩;have cells:∀q∈pas,eN w (De pas) (v9 ds) ((q.ps.map PC.er).map .c) (q.ps.map PC.val):=by
  intro q h;refine⟨by simp,fun j c u A K=>?_⟩;simp only[GB,zac] at A K;cases r:q.ps[j]? with
  |none=>simp_all
  |some pc=>
   rw[r] at A K;simp at A K;subst A K;exact⟨PC.nW pc,cell q h pc (wt r)⟩
 refine⟨rfl,by simp;omega,fun s=>?_,fun s n hn=>?_,?_,Fr.refl _ _ _ (zad _),fun n p b r t=>?_,fun n hn=>OF hn⟩
 ·show RA w _ (v9 ds) (z9 0 ds s) _;rw[XW];simp only[zaB,if_true,zag];cases hs:ds[s]? with
  |none=>exact Or.inl rfl
  |some d=>
   have S:=(If.1 hs).1;have V:s<vals.length:=by rw[hl];exact S
   have B:vals[s]? =some vals[s]:=AN V;obtain⟨q,r⟩:∃q,pas[s]? =some q:=⟨_,AN (by rw[l.l2];exact S)⟩;have:(vals.toArray++zaj (N - vals.toArray.size) undef).getD s undef=vals[s]:=by
    simp[zak,zaR,V]
   rw[this];have O:=wt r;obtain⟨P,Z,z⟩:=l.at_ s d _ q hs B r;generalize vals[s]=u at*
   subst P;obtain⟨k,ps,b,o⟩:=q;cases k with
   |one=>
    have z:ps.map PC.val=[u]:=z;obtain⟨pc,rfl⟩:∃pc,ps=[pc]:=by
     have:=congrArg zar z;exact List.length_eq_one_iff.1 (by simp_all)
    simp at z;rw[<-z];exact RA.iB (PC.nW pc) (cell _ O pc (by simp))
   |agg=>exact⟨_,z,cells _ O⟩
   |ptr=>
    have z:u=.pointer (some (ad b o))/\_:=z;rw[z.1];have f:mq pas=some ⟨.ptr,ps,b,o⟩:=by
     cases f:mq pas with
     |none=>exact absurd rfl (Vn f _ O)
     |some p=>
      obtain⟨J,I⟩:=LF f;obtain⟨i,E⟩:=zap J;have:=l.one i s p _ E r I rfl
      simp_all
    refine RA.iB (c:=.ptr aY 0 0 0) rfl (fun _=>?_);simp[De,f,DY]
 ·have a:(z9 0 ds s).ref n:=hn;rw[XW] at a;simp only[zaB,if_true,zag] at a;cases hs:ds[s]? with
  |none=>rw[hs] at a;exact absurd a id
  |some d=>
   rw[hs] at a;obtain⟨k,xs⟩:=d;cases k with
   |one=>match xs,a with
    |[],a=>exact absurd a id
    |[x],a=>exact absurd a id
    |_::_::_,a=>exact absurd a id
   |agg=>
    obtain⟨c,f,hh⟩:=a;obtain⟨y,_,rfl⟩:=zab.1 f;exact absurd hh id
   |ptr=>
    have a:n=aY:=a;subst a;exact ajv ds aY (zad aY)
 ·
  have M:∀n F m sz xs,v9 ds n≠some (.row F m sz xs):=fun n F m sz xs hn=>by obtain⟨_,_,_,e⟩:=XY hn;cases e
  have H:∀n,v9 ds n≠none->n=aY/\∃p,mq pas=some p/\(De pas).g n=DY p/\v9 ds n=some (.box ((p.ps.map PC.er).map .c)):=by
   intro n hn;cases hh:v9 ds n with
   |none=>simp_all
   |some b=>
    obtain⟨rfl,xs,P,Z⟩:=XY hh;rw[W] at P;cases f:mq pas with
    |none=>simp_all
    |some p=>
     grind [De]
  refine⟨fun n hn=>?_,fun m cs c n hm f hr=>?_,fun n cs hn=>?_,fun n F m sz xs hn=>absurd hn (M _ _ _ _ _),fun n hn hlf=>?_,fun n U hn a bm=>?_,fun b t=>?_,fun b t=>.inr (.inr t),
   fun n U F m sz xs cq m' bf aM hn=>absurd hn (M _ _ _ _ _),fun n F sz xs hn=>absurd hn (M _ _ _ _ _),?_,?_,?_⟩
  ·obtain⟨rfl,_⟩:=H n hn;exact ajv ds aY (zad aY)
  ·have Y:v9 ds m=some (.box cs):=hm;obtain⟨_,xs,_,e⟩:=XY Y;injection e with e;subst e;obtain⟨x,_,rfl⟩:=zab.1 f;exact absurd hr id
  ·have a:v9 ds n=some (.box cs):=hn;obtain⟨rfl,p,J,I,D⟩:=H n (by rw[a];simp);rw[a] at D;injection D with D;injection D with D;subst D;obtain⟨m1,m2⟩:=LF J;rw[I];refine⟨rfl,(l.mY p m1 m2).1,fun j c A=>?_⟩;rw[GB,GB] at A;cases rh:p.ps[j]? with
   |none=>simp_all
   |some pc=>
    rw[rh] at A;simp at A;subst A;exact⟨pc.val,(Q p m1 m2).1 j pc rh,PC.nW pc,cell p m1 pc (wt rh)⟩
  ·obtain⟨rfl,p,J,I,D⟩:=H n hn;obtain⟨m1,m2⟩:=LF J;rw[I];obtain⟨X,u2⟩:=l.mY p m1 m2;exact⟨fun⟨q,h,pc,C,t⟩=>u2 q h pc C t,.inr ⟨p,m1,m2,rfl⟩,X.lt⟩
  ·obtain⟨rfl,_⟩:=H n hn;obtain⟨rfl,_⟩:=H U a;omega
  ·obtain⟨q,h,pc,C,t⟩:=t;exact(T q h pc C).lt t
  ·simp_all
  ·simp_all
  grind
 ·have G:(if n=aY then(mq pas).map DY else none)=some p:=r
  split at G
  ·rename_i hn;subst hn;cases f:mq pas with
   |none=>simp_all
   |some q=>
    rw[f] at G;injection G with G;subst G;have hg:(De pas).g aY=DY q:=by simp[De,f]
    rw[hg];refine⟨rfl,rfl,rfl,rfl,rfl,fun F sz xs bk=>?_⟩
    grind
  ·cases G
def Ux (G:Gh) (h:Nat->Option aV) (b:Nat):Prop:=G.Im b\/∃n gr m sz xs,h n=some (.row gr m sz xs)/\yh G n b
theorem HR.ajE (H:HR B E w G h used []):∀{cs:List ao} {xs:List C} {vs:List Value},Am.mb h cs=some xs->eN w G h cs vs->∃ps:List PC,ps.map PC.er=xs/\ps.map PC.val=vs/\∀pc∈ps,Good w pc/\∀b,bB b pc->Ux G h b
 |[],xs,vs,hx,hc=>by
  simp only[Am.mb] at hx;injection hx with hx;subst hx;have:vs=[]:=IT (by simpa using hc.1)
  simp_all
 |c::cs,xs,vs,hx,hc=>by
  simp only[Am.mb] at hx;split at hx
  ·rename_i x aM g o;injection hx with hx;subst hx;match vs,hc.1 with
   |v::vs,hl=>
    obtain⟨pc,s,i,t,p⟩:=H.aaR g (hc.2 0 c v rfl rfl).2;obtain⟨ps,k,r,y⟩:=H.ajE (vs:=vs) o ⟨by simpa using hl,fun j c u a d=>hc.2 (j+1) c u a d⟩;refine⟨pc::ps,by simp[s,k],by simp[i,r],fun q e=>?_⟩;cases e with
    |head=>exact⟨t,fun b l=>(p b l).imp id fun⟨n,f,m,sz,xs,_,a,d⟩=>⟨n,f,m,sz,xs,a,d⟩⟩
    |tail _ e=>exact y q e
  ·cases hx
theorem HR.xC (H:HR B E w G h used []):∀{vs:List aw} {ds:List Dv} {us:List Value},Am.xC h vs=some ds->us.length=vs.length->(∀(j:Nat) (x:aw) (v:Value),vs[j]? =some x->us[j]? =some v->RA w G h x v)->
  ∃d:List PA,d.map (fun p=>(p.k,p.ps.map PC.er))=ds/\d.map Ci=us/\(∀p∈d,p.k≠ .ptr/\(p.k=.one->p.ps.length=1))/\∀p∈d,∀pc∈p.ps,Good w pc/\∀b,bB b pc->Ux G h b
 |[],ds,us,hx,hl,hc=>by
  simp only[Am.xC] at hx
  simp_all
 |x::vs,ds,us,hx,hl,hc=>by
  simp only[Am.xC] at hx;split at hx
  ·rename_i ag cs i;split at hx
   ·rename_i xs Bj n q;injection hx with hx;subst hx;match us,hl with
    |v::us,hl=>
     obtain⟨d,o,r,z,b4⟩:=H.xC (us:=us) q (by simpa using hl) (fun j x v m y=>hc (j+1) x v m y);have f:=hc 0 x v rfl rfl;have t:∃vs:List Value,(if ag=true then v=.agg vs.toArray else vs=[v])/\eN w G h cs vs:=by
      cases x with
      |one c=>
       have s:ag=false/\cs=[c]:=by cases c<;>simp[aw.cells?] at i<;>simp_all
       obtain⟨rfl,rfl⟩:=s;rcases f with f|f
       ·simp_all [aw.cells?]
       ·exact⟨[v],rfl,f⟩
      |agg cs'=>
       simp[aw.cells?] at i;obtain⟨rfl,rfl⟩:=i;obtain⟨vs,e,m⟩:∃vs:List Value,v=.agg vs.toArray/\eN w G h cs' vs:=f
       simp_all
      |cT xs=>simp[aw.cells?] at i
     obtain⟨cvs,a,u⟩:=t;obtain⟨ps,p1,l,p3⟩:=H.ajE n u;refine⟨⟨if ag=true then .agg else .one,ps,0,0⟩::d,by simp[p1,o],?_,fun p g=>?_,fun p g pc bZ=>?_⟩
     ·rw[By,r];congr 1;cases ag with
      |true=>
       simp only[if_true] at a⊢;rw[a,<-l];rfl
      |false=>
       simp only[Pe,if_false] at a⊢;rw[<-l] at a;match ps,a with
       |[pc],a=>simp at a;exact a
     ·cases g with
      |head=>
       cases ag with
       |true=>simp_all
       |false=>
        simp only[Pe,if_false] at a;refine⟨by simp,fun _=>?_⟩;have:(ps.map PC.val).length=1:=by rw[l,a];rfl
        simp_all
      |tail _ g=>exact z p g
     grind
   ·cases hx
  ·cases hx
theorem atd {a:List PA}:Jz (a.map Ci)=D1 a:=by
 match a with
 |[]=>rfl
 |[p]=>rfl
 |p::q::a=>rfl
theorem aw0 (hT:pQ P T) (hm:P.follows .mixedOrders=true) {ow:Bool} {f:FuncId} {fn:Func} {c:Code} {mc:mH} {ms:List bO} {M:List Dv->Option (List Dv×List C)} (hf:P.funcs[f]? =some fn) (l:fn.body=some c)
  (K:lF P fn.ntmps c mc=true) (hr:pT P fn.results.toList ms=true) (hM:∀ds U out,M ds=some (U,out)->ds.length<=fn.ntmps/\RH ow T mc ms ds=some (U,out)):oH P f ow M:=by
 intro ds U out lL w vals pas va;obtain⟨hN,cG⟩:=hM ds U out lL;refine calls_of_wp hf l ?_;have r0:=R.ao0 (N:=fn.ntmps) va hN;have BE:sr ds=(mq pas).map fun p=>p.ps.map PC.er:=by
  refine Zh va.l2 fun i d p hd s=>?_;have hv:vals[i]? =some (vals[i]'(by rw[va.l1];grind)):=AN _;exact(va.at_ i d _ p hd hv s).1
 unfold RH at cG;have jg:∀{σ:St} {a:Act} {w':World} {G:Gh},σ.JQ ow ms ds=some (U,out)->R w.heap.size (LQ pas) w fn.ntmps σ a w' G->a.defers=[]/\∃v,(results fn a.tmps).run P w'=.ok v w'/\
   ∃(A:List PA) (F:List PC),A.map (fun p=>(p.k,p.ps.map PC.er))=U/\(Ending.returned v)=.returned (D1 A)/\F.map PC.er=out/\Uy ow w w' pas A F:=by
  intro σ a w' G hx r;have H:=r.hr;unfold St.JQ at hx;split at hx
  ·rename_i vs e1;split at hx
   ·rename_i pf X z D;injection hx with hx;injection hx with nk fT;subst nk fT;have Bw:∀p,mq pas=some p->∃cs,σ.h aY=some (.box cs)/\(G.g aY).nl=false/\(G.g aY).b=p.b/\(G.g aY).o=p.o/\(oQ cs=some X\/X=[]):=by
     intro p s;rw[BE,s] at D;have qg:∀cs,σ.h aY=some (.box cs)->(G.g aY).nl=false/\(G.g aY).b=p.b/\(G.g aY).o=p.o:=fun cs iS=>by
      have sY:(LQ pas).qg aY=some (DY p):=by
       show(if aY=aY then(mq pas).map DY else none)=_
       rw[ai rfl,s];rfl
      obtain⟨O,J,q3,_⟩:=r.qg _ _ _ sY iS;exact⟨O,J,q3⟩
     cases ow with
     |false=>
      grind [Gg,Q7]
     |true=>
      grind [Gg]
    have aeN:∀q∈pas,q.k=.ptr->∃p,mq pas=some p/\q=p:=by
     intro q L E;cases K:mq pas with
     |none=>exact absurd E (Vn K q L)
     |some p=>
      obtain⟨c1,c2⟩:=LF K;obtain⟨i,hi⟩:=zap L;obtain⟨j,S⟩:=zap c1;have:=va.one i j q p hi S E c2
      simp_all
    have hE:∀b,(LQ pas) b->∃p cs,mq pas=some p/\σ.h aY=some (.box cs)/\(G.g aY).nl=false/\b=(G.g aY).b:=by
     rintro b ⟨q,L,E,rfl⟩;obtain⟨p,s,rfl⟩:=aeN q L E;obtain⟨cs,y,B,I,_,_⟩:=Bw q s;exact⟨q,cs,s,y,B,I.symm⟩
    have V:∀b,G.Im b->Hj w pas b:=fun b l=>by
     rcases H.uD b l with y|y|y
     ·exact .inl y
     ·obtain⟨p,cs,_,B,I,rfl⟩:=hE b y;exact absurd l (H.own aY (by rw[B];simp) I).1
     ·exact .inr y
    have aoi:∀b,Ux G σ.h b->Hj w pas b/\(∀p,mq pas=some p->b≠p.b):=by
     have W:∀b,(∀cs,σ.h aY=some (.box cs)->(G.g aY).nl=false->b≠(G.g aY).b)->∀p,mq pas=some p->b≠p.b:=fun b l p s=>by
      grind
     have aeh:∀b,(w.heap.size<=b\/(LQ pas) b)->(∀cs,σ.h aY=some (.box cs)->(G.g aY).nl=false->b≠(G.g aY).b)->Hj w pas b:=fun b l W=>by
      rcases l with l|l
      ·exact .inl l
      grind
     intro b l;rcases l with l|⟨n,gr,m,sz,xs,hn,hft⟩
     ·exact⟨V b l,W b fun cs y B he=>(H.own aY (by rw[y];simp) B).1 (he▸l)⟩
     ·have Z:σ.h n≠none:=by rw[hn];simp
      rcases hft with⟨bq,rfl⟩|Y
      ·have hd:∀cs,σ.h aY=some (.box cs)->(G.g aY).nl=false->(G.g n).b≠(G.g aY).b:=fun cs y B=>
        H.inj n aY Z (by rw[y];simp) (by grind) bq B
       exact⟨aeh _ (H.own n Z bq).2.1 hd,W _ hd⟩
      ·have ju:=(H.row n gr m sz xs hn).mode;cases m with
       |bh=>exact⟨V b (ju b Y),W b fun cs y B he=>(H.own aY (by rw[y];simp) B).1 (he▸ju b Y)⟩
       |bi=>exact⟨V b (ju.1 b Y).1,W b fun cs y B he=>(H.own aY (by rw[y];simp) B).1 (he▸(ju.1 b Y).1)⟩
       |live=>
        have hd:∀cs,σ.h aY=some (.box cs)->(G.g aY).nl=false->b≠(G.g aY).b:=fun cs y B=>H.live n gr sz xs hn b Y aY (by rw[y];simp) B;exact⟨aeh b (ju.1 b Y).2.2 hd,W b hd⟩
    obtain⟨us,u1,u2,_,u3⟩:=JX r hr e1;obtain⟨F,O,J,q3⟩:∃F:List PC,F.map PC.er=X/\(∀pc∈F,Good w' pc/\∀b,bB b pc->G.Im b)/\∀p∈pas,p.k=.ptr->OO w' p.b p.o F:=by
     cases K:mq pas with
     |none=>
      rw[BE,K] at D;have D:X=[]:=by cases ow<;>(injection D with D;exact D.symm)
      simp_all
     |some p=>
      obtain⟨cs,y,h4,h5,h6,I⟩:=Bw p K;rcases I.symm with I|I
      ·subst I;exact⟨[],rfl,by simp,fun _ _ _ j c S=>by simp at S⟩
      obtain⟨cvs,v1,v2⟩:=H.U0 y;obtain⟨ps,p1,p2,p3⟩:=HR.oQ I v1;refine⟨ps,p1,p3,fun q L E j c S=>?_⟩
      grind
    have yq:Fr w.heap.size (exV pas) w w':=⟨r.fr.os,r.fr.tape,r.fr.output,r.fr.size,r.fr.block,r.fr.mY⟩;have pt:∀{pf:List Dv},xC σ.h vs=some pf->∃v,(results fn a.tmps).run P w'=.ok v w'/\
      ∃(A:List PA) (F:List PC),A.map (fun p=>(p.k,p.ps.map PC.er))=pf/\(Ending.returned v)=.returned (D1 A)/\F.map PC.er=X/\Uy false w w' pas A F:=by
     intro pf Xl;obtain⟨A,b1,b2,b3,Q⟩:=H.xC Xl u2 u3;refine⟨_,JY fn a.tmps u1,A,F,b1,by rw[<-b2,atd],O,?_⟩;exact⟨fun p s=>(b3 p s).2,fun p s E=>absurd E (b3 p s).1,fun p s pc t=>⟨(Q p s pc t).1,fun b l=>(aoi b ((Q p s pc t).2 b l)).1⟩,yq,fun pc t=>⟨(J pc t).1,fun b l=>V b ((J pc t).2 b l)⟩,q3,fun h=>by cases h⟩
    refine⟨r.defers,?_⟩;cases ow with
    |true=>
     simp only[JP] at z;split at z
     ·rename_i Bj ns e4;split at z
      ·rename_i bq;injection z with z;subst z;obtain⟨A,b1,b2,b3,Q,b5⟩:=H.rE (fun b l=>by grind) e4 u2 u3;have E:∀p∈A.map (fun p=>(⟨p.1,p.2,0,0⟩:PA)),p.k≠ .ptr/\(p.k=.one->p.ps.length=1):=fun p s=>by
        grind
       have Ww:(A.map fun p=>(⟨p.1,p.2,0,0⟩:PA)).map (fun p=>(p.k,p.ps))=A:=by
        rw[zac];exact List.map_id' _
       have lM:(A.map fun p=>(⟨p.1,p.2,0,0⟩:PA)).flatMap (·.ps)=A.flatMap (·.2):=by rw[List.flatMap_map]
       refine⟨_,JY fn a.tmps u1,A.map fun p=>⟨p.1,p.2,0,0⟩,F,by rw[zac];exact b1,?_,O,fun p s=>(E p s).2,fun p s h=>absurd h (E p s).1,fun p s pc t=>?_,yq,
        fun pc t=>⟨(J pc t).1,fun b l=>V b ((J pc t).2 b l)⟩,q3,fun _=>⟨fun p s=>(E p s).1,⟨?_,?_,?_⟩,?_⟩⟩
       ·rw[ahq fun p s=>(E p s).1,Ww,<-b2,agL]
       ·have hm:=Q.each pc (by grind);exact⟨hm.fm.1,fun b l=>.inl (hm.new b (.inl l)).1.1⟩
       ·rw[lM];exact fun pc t=>(Q.each pc t).fm
       ·rw[lM];exact fun pc t b l=>((Q.each pc t).new b l).1
       ·rw[lM];intro i j pc fP b lN hi S l;have s:=Q.qX bq;rw[zaq] at s;obtain⟨li,ei⟩:=If.1 hi;obtain⟨lj,ej⟩:=If.1 S
        grind
       ·intro pc t b l q L;have e:X=[]:=by
         cases hpo:sr ds with
         |none=>rw[hpo] at D;injection D with D;exact D.symm
         |some x=>
          rw[hpo] at D;simp only[Gg] at D;split at D
          ·grind
          ·cases D
        rw[e] at O;rw[List.map_eq_nil_iff.1 O] at L;cases L
      ·cases z
     ·cases z
    |false=>
    simp only[JP] at z;unfold N3 at z;split at z
    ·rename_i v0;split at z
     ·rename_i n xs Mm;split at z
      ·cases z
      ·rename_i IB;injection z with z;subst z;obtain⟨sz,cs,rfl,hn,iS⟩:=UW Mm;obtain⟨nl,un,_⟩:=H.box n cs hn;have Z:σ.h n≠none:=by rw[hn];simp
       obtain⟨o1,o2,o3⟩:=H.own n Z nl;obtain⟨cvs,v1,v2⟩:=H.U0 hn;obtain⟨ps,p1,p2,p3⟩:=HR.oQ iS v1;match us,u2 with
       |[u],_=>
        have hu:u=.pointer (some (ad (G.g n).b (G.g n).o)):=by
         have h0:=u3 0 _ u rfl rfl;rcases h0 with h0|h0
         ·cases h0
         ·have y:RC w' G σ.h (.ptr n 0 sz 0) u:=(h0.2 0 _ u rfl rfl).2;simpa using(y Z).2
        have hB:w.heap.size<=(G.g n).b:=by
         rcases o2 with o2|o2
         ·exact o2
         ·obtain⟨p,cs',_,B,I,h4⟩:=hE _ o2;exact absurd h4 (H.inj n aY Z (by rw[B];simp) (by omega) nl I)
        refine⟨_,JY fn a.tmps u1,[⟨.ptr,ps,(G.g n).b,(G.g n).o⟩],F,by simp[p1],?_,O,?_⟩
        ·rw[hu];rfl
        ·refine⟨fun p s E=>?_,fun p s E=>?_,fun p s pc t=>?_,yq,fun pc t=>⟨(J pc t).1,fun b l=>V b ((J pc t).2 b l)⟩,q3,fun h=>by cases h⟩
         ·grind
         ·simp at s;subst s;refine⟨rfl,hB,un,fun j c S=>v2 j _ ?_,fun pc t l=>o1 ((p3 pc t).2 _ l),fun pc t l=>o1 ((J pc t).2 _ l)⟩
          grind
         grind
     grind
    grind
   ·cases hx
  ·cases hx
 split at cG
 ·rename_i σ e;exact nI hT hm mc K e r0 fun a w' G r=>jg cG r
 ·rename_i σ e;exact nI hT hm mc K e r0 fun a w' G r=>jg cG r
 ·cases cG
end
def _root_.Option.ae {α β:Type} (o:Option α) (f:α->Option β):Option β:=o.bind f
def aA {α:Type} (b:Bool) (x y:α):α:=cond b x y
def bt (k:IntKind) (a b:Int):Int:=k.wrap (a+b)
def lv (k:IntKind) (a b:Int):Int:=k.wrap (a - b)
def ik (k:IntKind) (a b:Int):Int:=k.wrap (a*b)
def arX (k:IntKind) (a:Int):Int:=k.wrap (0 - a)
def Vl (k:IntKind) (a:Int):Int:=k.wrap a
def ub (k:IntKind) (a b:Int):Int:=bits .and k a b
def Jx (k:IntKind) (a b:Int):Int:=bits .or k a b
def aaV (k:IntKind) (a b:Int):Int:=bits .xor k a b
def bH (a b:Int):Bool:=a==b
def iQ (a b:Int):Bool:=a !=b
def cH (a b:Int):Bool:=decide (a<b)
def gZ (a b:Int):Bool:=decide (a<=b)
def eqB (a b:Bool):Bool:=a==b
def YP (a b:Bool):Bool:=a !=b
def de (a:Bool):Bool:= !a
def sf (a b:Int):Int:=if a<b then b else a
def jM (a b:Int):Int:=if b<a then b else a
def aa {α:Type} (xs:List α):Nat:=xs.length
def aK (n:Nat):Int:=(n:Int)
def au (a b:Nat):Nat:=a+b
def bL {α:Type} (xs:List α) (k:Nat):Option α:=xs[k]?
def br {α:Type} (xs:List α) (k:Nat) (x:α):List α:=xs.set k x
def ci {α:Type} (xs ys:List α):List α:=xs++ys
def cJ {α:Type} (n:Nat) (x:α):List α:=zaG n x
def fE {α:Type} (xs:List α) (lo len:Nat):List α:=(xs.drop lo).take len
def cg {α:Type} (xs:List α) (i:Int):Option α:=if 0<=i then xs[i.toNat]? else none
def dg (i:Int) (len:Nat):Option Nat:=if 0<=i/\i<len then some i.toNat else none
def jP (lo hi:Int) (len:Nat):Option (Nat×Nat):=if 0<=lo/\lo<=hi/\hi<=len then some (lo.toNat,(hi - lo).toNat) else none
def cr {α:Type} (xs:List α) (lo len:Nat):Option (List α):=if lo+len<=xs.length then some ((xs.drop lo).take len) else none
def dO {α:Type} (xs:List α) (len:Nat):Option (List α):=if len<=xs.length then some (xs.take len) else none
def vC {α:Type} (xs:List α) (lo len:Nat) (ys:List α):Option (List α):=if lo+len<=xs.length then some (xs.take lo++ys++xs.drop (lo+ys.length)) else none
def j6 (a b:Int) (ew:Nat):Option Nat:=if a<=b/\0<=a/\b.toNat*ew<=fe then some a.toNat else none
def jT (n ew:Nat):Option Unit:=if n*ew<=fe then some () else none
def lm (a b:Nat):Option Unit:=if a=b then some () else none
def agS (n:Nat):Option Unit:=if 0<n then some () else none
def SP {α:Type} (xs:List α):List α:=xs.drop 1
def aU (lo len l:Nat):Option Unit:=if lo=0/\len=l then some () else none
abbrev U:=List Int
abbrev ah {α β:Type} (l:List α) (k:Option β):Option β:=(aU 0 (aa l) (aa l)).ae fun _=>k
def JK (k:IntKind) (a b:Int):Option Int:=if b=0 then none else some (k.wrap (a.tdiv b))
def ja (a b:Int):Option Int:=if b=0 then none else some (a.tmod b)
def Co (k:IntKind) (a b:Int):Option Int:=if b<0 then none else some (k.wrap (a*2^(min b.toNat k.bits)))
def Gw (k:IntKind) (a b:Int):Option Int:=if b<0 then none else some (a/(2^(min b.toNat k.bits)))
def bS {X Y:Type}:Nat->(X->Option (X⊕Y))->X->Option Y
 |0,_,_=>none
 |n+1,f,x=>match f x with
  |some (.inl x')=>bS n f x'
  |some (.inr y)=>some y
  |none=>none
def bN {X ρ:Type} (o:Option (X⊕ρ)) (k:X->Option ρ):Option ρ:=o.bind fun s=>Sum.casesOn s k some
theorem fC {α β:Type} {o:Option α} {f:α->Option β} {b:β}:o.ae f=some b↔∃a,o=some a/\f a=some b:=Option.bind_eq_some_iff
theorem Lz {α:Type} (x y:α):aA true x y=x:=rfl
theorem Lw {α:Type} (x y:α):aA false x y=y:=rfl
inductive Ty where
 |int (k:IntKind)
 |bool
 |list (ts:List Ty)
instance:Inhabited Ty:=⟨.bool⟩
mutual
def Ty.beq:Ty->Ty->Bool
 |.int k,.int k'=>decide (k=k')
 |.bool,.bool=>true
 |.list ts,.list us=>Ty.x6 ts us
 |_,_=>false
def Ty.x6:List Ty->List Ty->Bool
 |[],[]=>true
 |t::ts,u::us=>Ty.beq t u&&Ty.x6 ts us
 |_,_=>false
end
mutual
theorem Ty.beq_eq:∀{t u:Ty},Ty.beq t u=true->t=u
 |.int k,.int k',h=>by simp[Ty.beq] at h;rw[h]
 |.bool,.bool,_=>rfl
 |.list ts,.list us,h=>by simp only[Ty.beq] at h;rw[Ty.CT h]
 |.int _,.bool,h=>by simp[Ty.beq] at h
 |.int _,.list _,h=>by simp[Ty.beq] at h
 |.bool,.int _,h=>by simp[Ty.beq] at h
 |.bool,.list _,h=>by simp[Ty.beq] at h
 |.list _,.int _,h=>by simp[Ty.beq] at h
 |.list _,.bool,h=>by simp[Ty.beq] at h
theorem Ty.CT:∀{ts us:List Ty},Ty.x6 ts us=true->ts=us
 |[],[],_=>rfl
 |t::ts,u::us,h=>by simp only[Ty.x6,BY] at h;rw[Ty.beq_eq h.1,Ty.CT h.2]
 |[],_::_,h=>by simp[Ty.x6] at h
 |_::_,[],h=>by simp[Ty.x6] at h
end
mutual
def Ty.D:Ty->Type
 |.int _=>Int
 |.bool=>Bool
 |.list ts=>List (Ty.DL ts)
def Ty.DL:List Ty->Type
 |[]=>Unit
 |t::ts=>match ts with
  |[]=>Ty.D t
  |u::us=>Ty.D t×Ty.DL (u::us)
end
mutual
def Ty.er:(t:Ty)->t.D->C
 |.int k,n=>.int k n
 |.bool,b=>.bool b
 |.list ts,xs=>.list ts.length (co (Ty.aQ ts) xs)
def Ty.aQ:(ts:List Ty)->Ty.DL ts->List C
 |[],_=>[]
 |[t],x=>[Ty.er t x]
 |t::u::ts,x=>Ty.er t x.1::Ty.aQ (u::ts) x.2
end
def Ty.cast (t u:Ty) (x:t.D):Option u.D:=if h:Ty.beq t u=true then some (Ty.beq_eq h▸x) else none
theorem Ty.U6 {t u:Ty} {x:t.D} {y:u.D} (h:Ty.cast t u x=some y):t.er x=u.er y:=by unfold Ty.cast at h;split at h;rename_i a;have:=Ty.beq_eq a;subst this;injection h with h;rw[<-h];cases h
def Ty.wP (ts us:List Ty) (x:Ty.DL ts):Option (Ty.DL us):=if h:Ty.x6 ts us=true then some (Ty.CT h▸x) else none
theorem Ty.akR {ts us:List Ty} {x:Ty.DL ts} {y:Ty.DL us} (h:Ty.wP ts us x=some y):Ty.aQ ts x=Ty.aQ us y/\ts=us:=by unfold Ty.wP at h;split at h;rename_i a;have:=Ty.CT a;subst this;injection h with h;rw[<-h];exact⟨rfl,rfl⟩;cases h
theorem Ty.Bp:∀(ts:List Ty) (x:Ty.DL ts),(Ty.aQ ts x).length=ts.length
 |[],_=>rfl
 |[t],_=>rfl
 |t::u::ts,x=>by simp only[Ty.aQ,zaN,Ty.Bp (u::ts) x.2]
def Ty.gI:Ty->Bool
 |.list _=>false
 |_=>true
theorem Ty.Ck (t:Ty) (x:t.D):(t.er x).gI=t.gI:=by cases t<;>rfl
def Ty.io (ts:List Ty):Bool:=ts.all Ty.gI
theorem Ty.JZ:∀(ts:List Ty) (x:Ty.DL ts),Am.io (Ty.aQ ts x)=Ty.io ts
 |[],_=>rfl
 |[t],x=>by simp[Am.io,Ty.aQ,Ty.io];exact Ty.Ck t x
 |t::u::ts,x=>by have:=Ty.JZ (u::ts) x.2;simp only[Am.io,Ty.io] at this;simp only[Am.io,Ty.io,Ty.aQ,zaw,Ty.Ck] at this⊢;rw[this]
inductive SC where
 |v (t:Ty) (x:t.D)
 |nil (ts:List Ty)
 |ptr (n k sz off:Nat)
 |ez (ts:List Ty) (x:Ty.DL ts) (off:Nat)
 |sl (n sz lo len:Nat)
 |cF (n k aZ off sz len:Nat)
 |eE (n k aZ off sz i:Nat)
 |dE (ts:List Ty) (x:Ty.DL ts) (off j n sz len:Nat)
 |fn (f:FuncId) (fv:List SC)
 |cj
instance:Inhabited SC:=⟨.cj⟩
mutual
def SC.er:SC->ao
 |.v t x=>.c (t.er x)
 |.nil ts=>.nil ts.length
 |.ptr n k sz off=>.ptr n k sz off
 |.ez ts x off=>.ez (Ty.aQ ts x) off
 |.sl n sz lo len=>.sl n sz lo len
 |.cF n k aZ off sz len=>.cF n k aZ off sz len
 |.eE n k aZ off sz i=>.eE n k aZ off sz i
 |.dE ts x off j n sz len=>.dE (Ty.aQ ts x) off j n sz len
 |.fn f fv=>.fn f (SC.Pu fv)
 |.cj=>.cj
def SC.Pu:List SC->List ao
 |[]=>[]
 |c::cs=>SC.er c::SC.Pu cs
end
theorem SC.Pv (cs:List SC):SC.Pu cs=cs.map SC.er:=by induction cs with|nil=>rfl|cons c cs a=>simp[SC.Pu,a]
inductive SB where
 |box (cs:List SC)
 |row (gr:Bool) (m:Mode) (ts:List Ty) (xs:List (Ty.DL ts))
 |kt (ts:List Ty) (x:Ty.DL ts)
def SB.er:SB->aV
 |.box cs=>.box (cs.map SC.er)
 |.row gr m ts xs=>.row gr m ts.length (co (Ty.aQ ts) xs)
 |.kt ts x=>.box ((Ty.aQ ts x).map .c)
inductive SV where
 |one (c:SC)
 |agg (cs:List SC)
 |cT (xs:List (Bool×List SC))
 |arr (ts:List Ty) (x:Ty.DL ts)
 |pN (ts:List Ty) (x:Ty.DL ts) (xs:List (Bool×List SC))
instance:Inhabited SV:=⟨.one .cj⟩
def SV.er:SV->aw
 |.one c=>.one c.er
 |.agg cs=>.agg (cs.map SC.er)
 |.cT xs=>.cT (xs.map fun x=>(x.1,x.2.map SC.er))
 |.arr ts x=>.agg ((Ty.aQ ts x).map .c)
 |.pN ts x xs=>.cT ((true,(Ty.aQ ts x).map .c)::xs.map fun x=>(x.1,x.2.map SC.er))
structure ak where
 env:Nat->SV
 h:Nat->Option SB
 used:Nat->Bool
def wW (env:Nat->SV):Nat->aw:=fun s=>(env s).er
def eM (h:Nat->Option SB):Nat->Option aV:=fun n=>(h n).map SB.er
def ak.er (σ:ak):St:={env:=wW σ.env,h:=eM σ.h,used:=σ.used}
theorem Bo (env:Nat->SV) (n:Nat) (v:SV):wW (aN env n v)=aN (wW env) n v.er:=by funext s;simp only[wW,mZ];split<;>rfl
theorem Ps (h:Nat->Option SB) (n:Nat) (v:Option SB):eM (aN h n v)=aN (eM h) n (v.map SB.er):=by funext s;simp only[eM,mZ];split<;>rfl
def ak.put (σ:ak) (d:Option Nat) (v:SV):ak:=
 match d with
 |some n=>{σ with env:=aN σ.env n v}
 |none=>σ
def ak.ins (σ:ak) (n:Nat) (b:SB):Option ak:=
 match σ.used n with
 |true=>none
 |false=>some {σ with h:=aN σ.h n (some b),used:=aN σ.used n true}
def ak.fQ (σ:ak) (n:Nat) (b:SB):ak:={σ with h:=aN σ.h n (some b)}
def ak.del (σ:ak) (n:Nat):ak:={σ with h:=aN σ.h n none}
theorem ak.fJ (σ:ak) (d:Option Nat) (v:SV):(σ.put d v).er=σ.er.put d v.er:=by cases d with|none=>rfl|some n=>simp only[ak.put,ak.er,St.put,Bo]
theorem ak.uk {σ σ1:ak} {n:Nat} {b:SB} (h:σ.ins n b=some σ1):σ.er.ins n b.er=some σ1.er:=by unfold ak.ins at h;split at h;cases h;rename_i a;injection h with h;subst h;simp[St.ins,ak.er,a,Ps]
theorem ak.sK (σ:ak) (n:Nat) (b:SB):(σ.fQ n b).er=σ.er.fQ n b.er:=by simp[ak.fQ,ak.er,St.fQ,Ps]
theorem ak.HT (σ:ak) (n:Nat):(σ.del n).er=σ.er.del n:=by simp[ak.del,ak.er,St.del,Ps]
def Ty.cells:(ts:List Ty)->Ty.DL ts->List SC
 |[],_=>[]
 |[t],x=>[.v t x]
 |t::u::ts,x=>.v t x.1::Ty.cells (u::ts) x.2
theorem Ty.pq:∀(ts:List Ty) (x:Ty.DL ts),(Ty.cells ts x).map SC.er=(Ty.aQ ts x).map .c
 |[],_=>rfl
 |[t],x=>rfl
 |t::u::ts,x=>by simp only[Ty.cells,Ty.aQ,By,Ty.pq (u::ts) x.2];rfl
def Yt (n k rs off:Nat) (t:Ty) (x:t.D):SC:=
 match t,x with
 |.list ts,xs=>.cF n k rs off ts.length (aa (α:=Ty.DL ts) xs)
 |.int k',x=>.v (.int k') x
 |.bool,x=>.v .bool x
def Ty.live (n k rs:Nat):Nat->(ts:List Ty)->Ty.DL ts->List SC
 |_,[],_=>[]
 |off,[t],x=>[Yt n k rs off t x]
 |off,t::u::ts,x=>Yt n k rs off t x.1::Ty.live n k rs (off+1) (u::ts) x.2
theorem afL (n k a off:Nat) (t:Ty) (x:t.D) (l:List C):lY n k a off (t.er x::l)=(Yt n k a off t x).er::lY n k a (off+1) l:=by cases t with|int k'=>rfl|bool=>rfl|list ts=>exact congrArg (fun m=>ao.cF n k a off ts.length m::lY n k a (off+1) l) (AI (Ty.aQ ts))
theorem Ty.afQ (n k a:Nat):∀(off:Nat) (ts:List Ty) (x:Ty.DL ts),(Ty.live n k a off ts x).map SC.er=lY n k a off (Ty.aQ ts x)
 |_,[],_=>rfl
 |off,[t],x=>(afL n k a off t x []).symm
 |off,t::u::ts,x=>by simp only[Ty.live,Ty.aQ,afL,By,Ty.afQ n k a (off+1) (u::ts) x.2]
theorem afM (n k a:Nat):∀(j off:Nat) (l:List C),(lY n k a off l).drop j=lY n k a (off+j) (l.drop j)
 |0,off,l=>by simp
 |j+1,off,[]=>by simp[lY]
 |j+1,off,c::l=>by have b:=afM n k a j (off+1) l;rw[show off+1+j=off+(j+1) by omega] at b;cases c<;>simpa[lY] using b
theorem afP (n k a:Nat):∀(j off:Nat) (l:List C),(lY n k a off l).take j=lY n k a off (l.take j)
 |0,off,l=>by simp[lY]
 |j+1,off,[]=>by simp[lY]
 |j+1,off,c::l=>by cases c<;>simp[lY,afP n k a j (off+1) l]
theorem afN (n k a:Nat):∀(off:Nat) (l:List C),(lY n k a off l).length=l.length
 |off,[]=>rfl
 |off,c::l=>by cases c<;>simp[lY,afN n k a (off+1) l]
theorem awD (n k a off sz:Nat) (l:List C):sub (lY n k a 0 l) off sz=(sub l off sz).map (lY n k a off):=by unfold sub;rw[afN];split;simp[afM,afP];rfl
theorem y8 {α β:Type} (f:α->β) (l:List α) (off sz:Nat):sub (l.map f) off sz=(sub l off sz).map (co f):=by unfold sub;rw[AI];split;simp[zat,zan];rfl
def ES (t:Ty):(ts:List Ty)->t.D->Ty.DL ts->Ty.DL (t::ts)
 |[],x,_=>x
 |_::_,x,y=>(x,y)
theorem Vi (t:Ty) (ts:List Ty) (x:t.D) (y:Ty.DL ts):Ty.aQ (t::ts) (ES t ts x y)=t.er x::Ty.aQ ts y:=by cases ts<;>rfl
def uQ:(ts:List Ty)->List ((t:Ty)×t.D)->Option (Ty.DL ts)
 |[],[]=>some ()
 |t::ts,c::cs=>match Ty.cast c.1 t c.2,uQ ts cs with
  |some y,some z=>some (ES t ts y z)
  |_,_=>none
 |_,_=>none
def eK (l:List ((t:Ty)×t.D)):List C:=l.map fun x=>x.1.er x.2
theorem Aq:∀{ts:List Ty} {cs:List ((t:Ty)×t.D)} {y:Ty.DL ts},uQ ts cs=some y->Ty.aQ ts y=eK cs
 |[],[],y,h=>rfl
 |t::ts,c::cs,y,h=>by simp only[uQ] at h;split at h;rename_i y1 z b a;injection h with h;subst h;have:=Aq a;simp only[eK] at this;simp only[Vi,eK,By,Ty.U6 b,this];cases h
 |[],_::_,y,h=>by simp[uQ] at h
 |t::ts,[],y,h=>by simp[uQ] at h
def Ty.jF:(ts:List Ty)->Ty.DL ts->List ((t:Ty)×t.D)
 |[],_=>[]
 |[t],x=>[⟨t,x⟩]
 |t::u::ts,x=>⟨t,x.1⟩::Ty.jF (u::ts) x.2
theorem Ty.rK:∀(ts:List Ty) (x:Ty.DL ts),eK (Ty.jF ts x)=Ty.aQ ts x
 |[],_=>rfl
 |[t],x=>rfl
 |t::u::ts,x=>by have:=Ty.rK (u::ts) x.2;simp only[eK] at this;simp only[Ty.jF,Ty.aQ,eK,By,this]
def fH {ρ:Type} (b:Bool) (x:Option ρ):Option ρ:=match b with|true=>x|false=>none
def dq {ρ:Type} (a b:Nat) (x:Option ρ):Option ρ:=match zav a b with|true=>x|false=>none
theorem cR {ρ:Type} {b:Bool} {x:Option ρ} {r:ρ} (h:fH b x=some r):b=true/\x=some r:=by cases b with|true=>exact⟨rfl,h⟩|false=>cases h
theorem bn {ρ:Type} {a b:Nat} {x:Option ρ} {r:ρ} (h:dq a b x=some r):a=b/\x=some r:=by unfold dq at h;split at h;simp_all;cases h
abbrev TD:=(t:Ty)×t.D
inductive eQ where
 |t (n:Nat)
 |k (v:SV)
def eQ.er:eQ->MO
 |.t n=>.t n
 |.k v=>.k v.er
def ak.ev (σ:ak):eQ->SV
 |.t n=>σ.env n
 |.k v=>v
theorem ak.fS (σ:ak) (x:eQ):σ.er.ev x.er=(σ.ev x).er:=by cases x<;>rfl
def SV.cells?:SV->Option (Bool×List SC)
 |.one .cj=>none
 |.one c=>some (false,[c])
 |.agg cs=>some (true,cs)
 |.cT _=>none
 |.arr _ _=>none
 |.pN _ _ _=>none
theorem SV.pq {v:SV} {b:Bool} {cs:List SC} (h:v.cells?=some (b,cs)):v.er.cells?=some (b,cs.map SC.er):=by cases v with|one c=>cases c<;>simp[SV.cells?] at h<;>(obtain⟨rfl,rfl⟩:=h;rfl)|agg cs'=>simp[SV.cells?] at h;obtain⟨rfl,rfl⟩:=h;rfl|cT xs=>simp[SV.cells?] at h|arr ts x=>simp[SV.cells?] at h|pN ts x xs=>simp[SV.cells?] at h
def Kw:Bool->List SC->SV
 |true,cs=>.agg cs
 |false,[c]=>.one c
 |false,_=>.one .cj
theorem OB (b:Bool) (cs:List SC):(Kw b cs).er=wF b (cs.map SC.er):=by
 cases b with
 |true=>rfl
 |false=>match cs with
  |[]=>rfl
  |[c]=>rfl
  |_::_::_=>rfl
section
variable {ρ:Type}
def OY (op:BinOp) (k:IntKind) (a b:Int) (c:(t:Ty)->t.D->Option ρ):Option ρ:=
 match op with
 |.add=>c (.int k) (bt k a b)
 |.sub=>c (.int k) (lv k a b)
 |.mul=>c (.int k) (ik k a b)
 |.quo=>(JK k a b).ae fun x=>c (.int k) x
 |.rem=>(ja a b).ae fun x=>c (.int k) x
 |.and=>c (.int k) (ub k a b)
 |.or=>c (.int k) (Jx k a b)
 |.xor=>c (.int k) (aaV k a b)
 |.eql=>c .bool (bH a b)
 |.neq=>c .bool (iQ a b)
 |.lss=>c .bool (cH a b)
 |.leq=>c .bool (gZ a b)
 |.gtr=>c .bool (cH b a)
 |.geq=>c .bool (gZ b a)
 |_=>none
theorem akA {op:BinOp} {k:IntKind} {a b:Int} {c:(t:Ty)->t.D->Option ρ} {r:ρ} (h:OY op k a b c=some r):
    ∃(t:Ty) (x:t.D),Hs op k a b=some (t.er x)/\c t x=some r:=by
  cases op<;>first
    |exact⟨.int k,_,rfl,h⟩
    |exact⟨.bool,_,rfl,h⟩
    |(simp only[OY,JK,ja,fC] at h
      obtain⟨x,d,e⟩:=h;split at d
      · cases d
      · rename_i f;injection d with d;subst d;exact⟨.int k,_,by simp[Hs,f,Ty.er],e⟩)
    |(simp[OY] at h)
def Se (op:BinOp) (k:IntKind) (a b:Int) (c:(t:Ty)->t.D->Option ρ):Option ρ:=
 match op with
 |.shl=>(Co k a b).ae fun x=>c (.int k) x
 |.shr=>(Gw k a b).ae fun x=>c (.int k) x
 |_=>none
theorem awd {op:BinOp} {k:IntKind} {a b:Int} {c:(t:Ty)->t.D->Option ρ} {r:ρ} (h:Se op k a b c=some r): ∃(t:Ty) (x:t.D),J8 op k a b=some (t.er x)/\c t x=some r:=by cases op<;>first|grind [Se,Co,Gw,fC,J8,Ty.er]|simp_all [Se,Co,Gw,fC,J8,Ty.er]
def UY (op:BinOp) (x y:SV) (c:(t:Ty)->t.D->Option ρ):Option ρ:=
 match x,y with
 |.one (.v (.int k) a),.one (.v (.int k') b)=>match BinOp.FK op with
  |true=>Se op k a b c
  |false=>match decide (k=k') with
   |true=>OY op k a b c
   |false=>none
 |_,_=>none
theorem akB {op:BinOp} {x y:SV} {c:(t:Ty)->t.D->Option ρ} {r:ρ} (h:UY op x y c=some r): ∃(t:Ty) (z:t.D),CU op x.er y.er=some (t.er z)/\c t z=some r:=by unfold UY at h;split at h;rename_i k a k' b;split at h;rename_i e;obtain⟨t,z,g,f⟩:=awd h;grind [SV.er,SC.er,Ty.er,CU];rename_i e;split at h;rename_i d;have d:=of_decide_eq_true d;obtain⟨t,z,g,f⟩:=akA h;grind [SV.er,SC.er,Ty.er,CU];cases h;cases h
def UX (op:BinOp) (x y:SV) (c:(t:Ty)->t.D->Option ρ):Option ρ:=
 match x,y with
 |.one (.v .bool a),.one (.v .bool b)=>match op with
  |.eql=>c .bool (eqB a b)
  |.neq=>c .bool (YP a b)
  |_=>none
 |_,_=>none
theorem akz {op:BinOp} {x y:SV} {c:(t:Ty)->t.D->Option ρ} {r:ρ} (h:UX op x y c=some r): ∃(t:Ty) (z:t.D),Hr op x.er y.er=some (t.er z)/\c t z=some r:=by unfold UX at h;split at h;rename_i a b;split at h;exact⟨.bool,_,rfl,h⟩;exact⟨.bool,_,rfl,h⟩;cases h;cases h
def unS (op:UnOp) (x:SV) (c:(t:Ty)->t.D->Option ρ):Option ρ:=
 match x with
 |.one (.v .bool a)=>match op with
  |.not=>c .bool (de a)
  |_=>none
 |.one (.v (.int k) a)=>match op with
  |.neg=>c (.int k) (arX k a)
  |_=>none
 |_=>none
theorem awT {op:UnOp} {x:SV} {c:(t:Ty)->t.D->Option ρ} {r:ρ} (h:unS op x c=some r): ∃(t:Ty) (z:t.D),Kz op x.er=some (t.er z)/\c t z=some r:=by unfold unS at h;split at h;rename_i a;split at h;exact⟨.bool,_,rfl,h⟩;cases h;rename_i k a;split at h;exact⟨.int k,_,rfl,h⟩;cases h;cases h
def SV.fW:SV->Option Int
 |.one (.v (.int k) n)=>some n
 |_=>none
theorem SV.FI {v:SV} {n:Int} (h:v.fW=some n):v.er.fW=some n:=by unfold SV.fW at h;split at h;injection h with h;subst h;rfl;cases h
theorem Ty.Vx:∀(ts:List Ty) (x:Ty.DL ts),(Ty.jF ts x).length=ts.length
 |[],_=>rfl
 |[t],_=>rfl
 |t::u::ts,x=>by simp only[Ty.jF,zaN,Ty.Vx (u::ts) x.2]
def Wj (ts:List Ty) (x:Ty.DL ts) (i:Nat):Option Int:=match(Ty.jF ts x)[i]? with
 |some ⟨.int .i64,v⟩=>some v
 |_=>none
def ZQ (ts:List Ty) (x:Ty.DL ts) (i:Nat) (v:Int):Option (Ty.DL ts):=match decide (i<ts.length) with
 |true=>uQ ts ((Ty.jF ts x).set i ⟨.int .i64,v⟩)
 |false=>none
theorem anv {ts:List Ty} {x:Ty.DL ts} {i:Nat} {v:Int} (h:Wj ts x i=some v):(Ty.aQ ts x)[i]? =some (.int .i64 v):=by unfold Wj at h;split at h;rename_i w a;injection h with h;subst h;rw[<-Ty.rK,eK,GB,a];rfl;cases h
theorem av7 {ts:List Ty} {x y:Ty.DL ts} {i:Nat} {v:Int} (h:ZQ ts x i v=some y):i<ts.length/\Ty.aQ ts y=(Ty.aQ ts x).set i (.int .i64 v):=by unfold ZQ at h;split at h;rename_i a;refine⟨of_decide_eq_true a,?_⟩;have:=Aq h;rw[this,eK,zam,<-Ty.rK ts x];rfl;cases h
theorem sub_one {α:Type} {l:List α} {i:Nat} {c:α} (h:l[i]? =some c):sub l i 1=some [c]:=by obtain⟨a,b⟩:=If.1 h;unfold sub;rw[ai (show i+1<=l.length from a),List.drop_eq_getElem_cons a,b];rfl
def Sk (h:Nat->Option SB) (p:SC) (sz:Nat) (c:List SC->Option ρ):Option ρ:=
 match p with
 |.ptr n k aZ off=>match h n with
  |some (.box cs)=>dq k 0 (match sub cs off sz with|some l=>c l|none=>none)
  |some (.row _ m ts xs)=>dq aZ ts.length ((bL xs k).ae fun e=>
   match sub (match m with|.live=>Ty.live n k ts.length 0 ts e|_=>Ty.cells ts e) off sz with
   |some l=>c l
   |none=>none)
  |some (.kt ts x)=>dq k 0 (dq sz 1 ((Wj ts x off).ae fun v=>c [.v (.int .i64) v]))
  |none=>none
 |.ez ts x off=>match sub (Ty.cells ts x) off sz with|some l=>c l|none=>none
 |.dE ts x off j n s len=>match zav off j&&zav sz 1 with
  |true=>c [.sl n s 0 len]
  |false=>fH (zau (off+sz) j) (match sub (Ty.cells ts x) off sz with|some l=>c l|none=>none)
 |.eE n kk aZ off s i=>match h n with
  |some (.row _ .live ts xs)=>dq ts.length aZ ((bL xs kk).ae fun e=>match(Ty.jF ts e)[off]? with
   |some ⟨.list us,ys⟩=>dq us.length s (dq sz s (fH (Ty.io us) ((bL (α:=Ty.DL us) ys i).ae fun y=>c (Ty.cells us y))))
   |_=>none)
  |_=>none
 |_=>none
theorem aen {ts:List Ty} {ys:List (Ty.DL ts)} {i:Nat} {y:Ty.DL ts} (h:bL ys i=some y):(co (Ty.aQ ts) ys)[i]? =some (Ty.aQ ts y):=by have h0:ys[i]? =some y:=h;simp_all
theorem ar7 {us:List Ty} {L:List (List C)} {i:Nat} {y:Ty.DL us} (h:L[i]? =some (Ty.aQ us y)) (hs:Ty.io us=true): (match L[i]? with|some e=>if Am.io e=true then some (e.map .c) else none|none=>none)=some ((Ty.cells us y).map SC.er):=by simp_all [Ty.JZ,if_true,Ty.pq]
theorem als:∀{ts:List Ty} {e:Ty.DL ts} {off:Nat} {x:TD},(Ty.jF ts e)[off]? =some x->(Ty.aQ ts e)[off]? =some (x.1.er x.2):=by grind [Ty.rK,eK]
theorem aix {h:Nat->Option SB} {p:SC} {sz:Nat} {c:List SC->Option ρ} {r:ρ} (hx:Sk h p sz c=some r): ∃l,loadAt (eM h) p.er sz=some (l.map SC.er)/\c l=some r:=by unfold Sk at hx;split at hx;rename_i n k z off;split at hx;rename_i cs hn;have a:=(bn hx).1;replace hx:=(bn hx).2;subst a;split at hx;grind [SC.er,loadAt,eM,SB.er,y8];cases hx;rename_i w m ts xs hn;have a:=(bn hx).1;replace hx:=(bn hx).2;subst a;rw[fC] at hx;obtain⟨e,b,hx⟩:=hx;replace b:xs[k]? =some e:=b;split at hx;rename_i l hl;refine⟨l,?_,hx⟩;have f:(co (Ty.aQ ts) xs)[k]? =some (Ty.aQ ts e):=(by rw[GB,b];rfl);simp only[SC.er,loadAt,eM,hn,AT,SB.er,if_true,f];(cases m with|live=>simp only at hl;have:=congrArg (zaT (co SC.er)) hl;rw[<-y8,Ty.afQ,awD] at this;grind|bi=>simp only at hl;have:=congrArg (zaT (co SC.er)) hl;rw[<-y8,Ty.pq,y8] at this;grind|bh=>simp only at hl;have:=congrArg (zaT (co SC.er)) hl;rw[<-y8,Ty.pq,y8] at this;grind);cases hx;rename_i ts x hn;have a:=(bn hx).1;replace hx:=(bn hx).2;subst a;have a:=(bn hx).1;replace hx:=(bn hx).2;subst a;rw[fC] at hx;obtain⟨v,B,hx⟩:=hx;have t:=anv B;refine⟨_,?_,hx⟩;have o:((Ty.aQ ts x).map ao.c)[off]? =some (.c (.int .i64 v)):=(by rw[GB,t];rfl);have q:=sub_one o;simp only[SC.er,loadAt,eM,hn,AT,SB.er,if_true];exact q;cases hx;rename_i ts x off;split at hx;rename_i l hl;refine⟨l,?_,hx⟩;have:=congrArg (zaT (co SC.er)) hl;rw[<-y8,Ty.pq,y8] at this;simpa[SC.er,loadAt] using this;cases hx;rename_i ts x off j n s len;split at hx;rename_i d;simp only[BY] at d;have o:=zay d.1;have q:=zay d.2;grind [SC.er,loadAt];rename_i d;have bm:¬(off=j/\sz=1):=(by rintro⟨rfl,rfl⟩;simp at d);have A:=(cR hx).1;replace hx:=(cR hx).2;have jU:=zaz A;split at hx;rename_i l hl;refine⟨l,?_,hx⟩;have:=congrArg (zaT (co SC.er)) hl;rw[<-y8,Ty.pq,y8] at this;grind [SC.er,loadAt];cases hx;rename_i n u z off s i;split at hx;rename_i w ts xs hn;have a:=(bn hx).1;replace hx:=(bn hx).2;subst a;rw[fC] at hx;obtain⟨e,b,hx⟩:=hx;replace b:xs[u]? =some e:=b;split at hx;rename_i us ys hd;have a:=(bn hx).1;replace hx:=(bn hx).2;subst a;have a:=(bn hx).1;replace hx:=(bn hx).2;subst a;have C:=(cR hx).1;replace hx:=(cR hx).2;rw[fC] at hx;obtain⟨y,hy,hx⟩:=hx;have g:(co (Ty.aQ us) ys)[i]? =some (Ty.aQ us y):=aen (ts:=us) (ys:=ys) hy;refine⟨Ty.cells us y,?_,hx⟩;have f:=als hd;simp only[SC.er,loadAt,eM,hn,AT,SB.er,if_true,GB,b,zai,f,Ty.er,and_self];exact ar7 g C;cases hx;cases hx;cases hx
theorem Pj:∀{ts:List Ty} {e:Ty.DL ts} {off:Nat} {x:TD},(Ty.jF ts e)[off]? =some x->(Ty.aQ ts e)[off]? =some (x.1.er x.2):=by grind [Ty.rK,eK]
def Cs (h:Nat->Option SB) (c:SC) (k:(t:Ty)->t.D->Option ρ):Option ρ:=
 match c with
 |.v t x=>k t x
 |.nil ts=>match ts with
  |[]=>none
  |t::us=>k (.list (t::us)) ([]:List (Ty.DL (t::us)))
 |.sl n sz lo len=>match h n with
  |some (.row _ _ ts xs)=>dq ts.length sz ((cr xs lo len).ae fun ys=>k (.list ts) ys)
  |_=>none
 |.cF n kk aZ off sz len=>match h n with
  |some (.row _ .live ts xs)=>dq ts.length aZ ((bL xs kk).ae fun e=>match(Ty.jF ts e)[off]? with
   |some ⟨t,x⟩=>k t x
   |none=>none)
  |_=>none
 |_=>none
theorem ajG {ts:List Ty} {xs ys:List (Ty.DL ts)} {lo len:Nat} (h:cr xs lo len=some ys):lo+len<=xs.length/\((co (Ty.aQ ts) xs).drop lo).take len=co (Ty.aQ ts) ys:=by grind [zat,zan,cr]
theorem GJ {h:Nat->Option SB} {c:SC} {k:(t:Ty)->t.D->Option ρ} {r:ρ} (hx:Cs h c k=some r): ∃(t:Ty) (x:t.D),dX (eM h) c.er=some (t.er x)/\k t x=some r:=by unfold Cs at hx;split at hx;exact⟨_,_,rfl,hx⟩;grind [SC.er,dX,Ty.er];rename_i n sz lo len;split at hx;rename_i f m ts xs hn;have a:=(bn hx).1;replace hx:=(bn hx).2;subst a;rw[fC] at hx;obtain⟨ys,i,hx⟩:=hx;obtain⟨g,j⟩:=ajG i;refine⟨.list ts,ys,?_,hx⟩;simp only[SC.er,dX,eM,hn,AT,SB.er,AI,Ty.er,j,g,and_self,if_true];cases hx;rename_i n d aZ off sz len;split at hx;rename_i f ts xs hn;have a:=(bn hx).1;replace hx:=(bn hx).2;subst a;rw[fC] at hx;obtain⟨e,b,hx⟩:=hx;replace b:xs[d]? =some e:=b;split at hx;rename_i t x hd;refine⟨t,x,?_,hx⟩;have:=Pj hd;simp_all [SC.er,dX,eM,AT,SB.er,if_true,GB,zai];cases hx;cases hx;cases hx
def GK (h:Nat->Option SB):List SC->(List TD->Option ρ)->Option ρ
 |[],k=>k []
 |c::cs,k=>Cs h c fun t x=>GK h cs fun l=>k (⟨t,x⟩::l)
theorem Oz {h:Nat->Option SB}:∀{cs:List SC} {k:List TD->Option ρ} {r:ρ},GK h cs k=some r-> ∃l,mb (eM h) (cs.map SC.er)=some (eK l)/\k l=some r
 |[],k,r,hx=>⟨[],rfl,hx⟩
 |c::cs,k,r,hx=>by simp only[GK] at hx;obtain⟨t,x,h1,a⟩:=GJ hx;obtain⟨l,h3,h4⟩:=Oz a;grind [mb,eK]
abbrev cW:=K×List TD
def cW.er (d:cW):Dv:=(d.1,eK d.2)
def aar (h:Nat->Option SB) (v:SV) (k:cW->Option ρ):Option ρ:=
 match v with
 |.one (.ptr n kk sz off)=>match h n with
  |some (.box cs)=>dq kk 0 (dq off 0 (GK h cs fun l=>k (.ptr,l)))
  |_=>none
 |.one (.ez ts x off)=>dq off 0 (k (.ptr,Ty.jF ts x))
 |.one c=>Cs h c fun t x=>k (.one,[⟨t,x⟩])
 |.agg cs=>GK h cs fun l=>k (.agg,l)
 |.cT _=>none
 |.arr _ _=>none
 |.pN _ _ _=>none
theorem awF {h:Nat->Option SB} {v:SV} {k:cW->Option ρ} {r:ρ} (hx:aar h v k=some r): ∃d:cW,mD (eM h) v.er=some d.er/\k d=some r:=by unfold aar at hx;split at hx;rename_i n o sz off;split at hx;rename_i cs hn;have i:=(bn hx).1;replace hx:=(bn hx).2;subst i;have i:=(bn hx).1;replace hx:=(bn hx).2;subst i;obtain⟨l,g,j⟩:=Oz hx;exact⟨(.ptr,l),by simp[SV.er,SC.er,mD,eM,hn,SB.er];exact⟨_,g,rfl⟩,j⟩;cases hx;rename_i ts x off;have i:=(bn hx).1;replace hx:=(bn hx).2;grind [SV.er,SC.er,mD,cW.er,Ty.rK];rename_i c hp hd;obtain⟨t,x,g,j⟩:=GJ hx;refine⟨(.one,[⟨t,x⟩]),?_,j⟩;(cases c with|ptr n o sz off=>grind|ez ts x off=>grind|v t' x'=>simp only[SV.er,SC.er,mD] at g⊢;rw[g];rfl|nil ts=>simp only[SV.er,SC.er,mD] at g⊢;rw[g];rfl|sl n sz lo len=>simp only[SV.er,SC.er,mD] at g⊢;rw[g];rfl|cF n a b m d e=>simp only[SV.er,SC.er,mD] at g⊢;rw[g];rfl|eE n a b m d e=>simp only[SV.er,SC.er,mD] at g⊢;rw[g];rfl|dE ts x a b n m d=>simp only[SV.er,SC.er,mD] at g⊢;rw[g];rfl|fn f fv=>simp only[SV.er,SC.er,mD] at g⊢;rw[g];rfl|cj=>simp only[SV.er,SC.er,mD] at g⊢;rw[g];rfl);obtain⟨l,g,j⟩:=Oz hx;grind [SV.er,mD,cW.er];cases hx;cases hx;cases hx
def Oy (h:Nat->Option SB):List SV->(List cW->Option ρ)->Option ρ
 |[],k=>k []
 |v::vs,k=>aar h v fun d=>Oy h vs fun l=>k (d::l)
theorem aas {h:Nat->Option SB}:∀{vs:List SV} {k:List cW->Option ρ} {r:ρ},Oy h vs k=some r-> ∃l,qk (eM h) (vs.map SV.er)=some (l.map cW.er)/\k l=some r
 |[],k,r,hx=>⟨[],rfl,hx⟩
 |v::vs,k,r,hx=>by simp only[Oy] at hx;obtain⟨d,h1,a⟩:=awF hx;obtain⟨l,h3,h4⟩:=aas a;grind [qk]
def Mode.own:Mode->Bool
 |.bh=>false
 |_=>true
theorem Mode.asr (m:Mode):decide (m≠ .bh)=m.own:=by cases m<;>rfl
def SE (σ:ak) (c:SC) (k:(t:Ty)->t.D->Bool->ak->Option ρ):Option ρ:=
 match c with
 |.v t x=>k t x t.gI σ
 |.nil ts=>match ts with
  |[]=>none
  |t::us=>k (.list (t::us)) ([]:List (Ty.DL (t::us))) true σ
 |.sl n sz lo len=>match σ.h n with
  |some (.row _ m ts xs)=>dq ts.length sz (dq lo 0 ((dO xs len).ae fun ys=>k (.list ts) ys m.own (σ.del n)))
  |_=>none
 |_=>none
theorem aaB {ts:List Ty} {xs ys:List (Ty.DL ts)} {len:Nat} (h:dO xs len=some ys):len<=xs.length/\(co (Ty.aQ ts) xs).take len=co (Ty.aQ ts) ys:=by grind [zan,dO]
theorem ai1 {σ:ak} {c:SC} {k:(t:Ty)->t.D->Bool->ak->Option ρ} {r:ρ} (hx:SE σ c k=some r): ∃(t:Ty) (x:t.D) (o:Bool) (σ1:ak),σ.er.ir c.er=some (t.er x,o,σ1.er)/\k t x o σ1=some r:=by unfold SE at hx;split at hx;grind [SC.er,St.ir,Ty.Ck];grind [SC.er,St.ir,Ty.er];rename_i n sz lo len;split at hx;rename_i b m ts xs hn;have a:=(bn hx).1;replace hx:=(bn hx).2;subst a;have a:=(bn hx).1;replace hx:=(bn hx).2;subst a;rw[fC] at hx;obtain⟨ys,e,hx⟩:=hx;obtain⟨d,f⟩:=aaB e;refine⟨.list ts,ys,m.own,σ.del n,?_,hx⟩;have g:σ.er.h n=some (.row b m ts.length (co (Ty.aQ ts) xs)):=(by simp[ak.er,eM,hn,SB.er]);simp only[SC.er,St.ir,g,AI,d,f,and_self,if_true,Ty.er,ak.HT,Mode.asr];cases hx;cases hx
def Kp (σ:ak):List SC->(List TD->Bool->ak->Option ρ)->Option ρ
 |[],k=>k [] true σ
 |c::cs,k=>SE σ c fun t x o σ1=>Kp σ1 cs fun l o' σ2=>k (⟨t,x⟩::l) (o&&o') σ2
theorem SG:∀{cs:List SC} {σ:ak} {k:List TD->Bool->ak->Option ρ} {r:ρ},Kp σ cs k=some r-> ∃(l:List TD) (o:Bool) (σ1:ak),σ.er.jm (cs.map SC.er)=some (eK l,o,σ1.er)/\k l o σ1=some r
 |[],σ,k,r,hx=>⟨[],true,σ,rfl,hx⟩
 |c::cs,σ,k,r,hx=>by simp only[Kp] at hx;obtain⟨t,x,o,σ1,h1,a⟩:=ai1 hx;obtain⟨l,o',σ2,h3,h4⟩:=SG a;grind [St.jm,eK]
def SF (ts:List Ty) (σ:ak):List SV->(List (Ty.DL ts)->Bool->ak->Option ρ)->Option ρ
 |[],k=>k [] true σ
 |v::vs,k=>match v.cells? with
  |some (_,cs)=>Kp σ cs fun l o σ1=>match uQ ts l with
   |some e=>SF ts σ1 vs fun es o' σ2=>k (e::es) (o&&o') σ2
   |none=>none
  |none=>none
theorem ajk:∀{cs:List ao} {σ σ1:St} {l:List C} {o:Bool},σ.jm cs=some (l,o,σ1)->l.length=cs.length
 |[],σ,σ1,l,o,h=>by simp_all [St.jm]
 |c::cs,σ,σ1,l,o,h=>by simp only[St.jm] at h;split at h;split at h;rename_i a;injection h with h;injection h with h h2;subst h;simp[ajk a];cases h;cases h
theorem ai2 {ts:List Ty}:∀{vs:List SV} {σ:ak} {k:List (Ty.DL ts)->Bool->ak->Option ρ} {r:ρ},SF ts σ vs k=some r-> ∃(c:List (Ty.DL ts)) (o:Bool) (σ1:ak),σ.er.nE ts.length (vs.map SV.er)=some (co (Ty.aQ ts) c,o,σ1.er)/\k c o σ1=some r
 |[],σ,k,r,hx=>⟨[],true,σ,rfl,hx⟩
 |v::vs,σ,k,r,hx=>by simp only[SF] at hx;split at hx;rename_i b cs m;obtain⟨l,o,σ1,g,d⟩:=SG hx;split at d;rename_i e f;obtain⟨c,j,σ2,i,h⟩:=ai2 d;have hl:(cs.map SC.er).length=ts.length:=(by have a:=ajk g;rw[<-Aq f,Ty.Bp] at a;exact a.symm);refine⟨e::c,o&&j,σ2,?_,h⟩;simp only[By,St.nE,SV.pq m,hl,if_true,g,i,Aq f];cases d;cases hx
end
section
def cv:List (List Ty)->Type
 |[]=>Unit
 |ts::l=>match l with
  |[]=>Ty.DL ts
  |us::l'=>Ty.DL ts×cv (us::l')
abbrev bu:=List (K×List Ty)
abbrev bu.cu (s:bu):List (List Ty):=s.map (·.2)
def eG:(as:bu)->cv as.cu->List Dv
 |[],_=>[]
 |[a],x=>[(a.1,Ty.aQ a.2 x)]
 |a::b::as,x=>(a.1,Ty.aQ a.2 x.1)::eG (b::as) x.2
def nc:(as:bu)->cv as.cu->List cW
 |[],_=>[]
 |[a],x=>[(a.1,Ty.jF a.2 x)]
 |a::b::as,x=>(a.1,Ty.jF a.2 x.1)::nc (b::as) x.2
theorem Bg:∀(as:bu) (x:cv as.cu),(nc as x).map cW.er=eG as x
 |[],_=>rfl
 |[a],x=>congrArg (fun l=>[((a.1,l):Dv)]) (Ty.rK a.2 x)
 |a::b::as,x=>by have:=Bg (b::as) x.2;simp only[nc,eG,By,cW.er,Ty.rK,this]
def K.beq:K->K->Bool
 |.one,.one=>true
 |.agg,.agg=>true
 |.ptr,.ptr=>true
 |_,_=>false
theorem K.beq_eq {a b:K} (h:K.beq a b=true):a=b:=by cases a<;>cases b<;>first|rfl|cases h
def LB (ts:List Ty):(l:List (List Ty))->Ty.DL ts->cv l->cv (ts::l)
 |[],x,_=>x
 |_::_,x,y=>(x,y)
theorem VE (a:K×List Ty):∀(as:bu) (x:Ty.DL a.2) (y:cv (bu.cu as)),eG (a::as) (LB a.2 (bu.cu as) x y)=(a.1,Ty.aQ a.2 x)::eG as y
 |[],_,_=>rfl
 |_::_,_,_=>rfl
def rz:(as:bu)->List cW->Option (cv as.cu)
 |[],[]=>some ()
 |a::as,d::ds=>fH (K.beq a.1 d.1) (match uQ a.2 d.2,rz as ds with
  |some x,some y=>some (LB a.2 (bu.cu as) x y)
  |_,_=>none)
 |_,_=>none
theorem wv:∀{as:bu} {ds:List cW} {x:cv as.cu},rz as ds=some x->ds.map cW.er=eG as x
 |[],[],x,h=>rfl
 |a::as,d::ds,x,h=>by simp only[rz] at h;have c:=(cR h).1;replace b:=(cR h).2;split at b;rename_i y z e f;injection b with b;subst b;rw[VE,By,wv f,cW.er,<-K.beq_eq c,<-Aq e];cases b
 |[],_::_,x,h=>by simp[rz] at h
 |a::as,[],x,h=>by simp[rz] at h
mutual
theorem Ty.acA:∀(t:Ty) (x y:t.D),t.er x=t.er y->x=y
 |.int k,x,y,h=>by grind [Ty.er]
 |.bool,x,y,h=>by grind [Ty.er]
 |.list ts,x,y,h=>by simp only[Ty.er] at h;injection h with _ h;exact Ty.acz ts x y h
theorem Ty.acz:∀(ts:List Ty) (xs ys:List (Ty.DL ts)),co (Ty.aQ ts) xs=co (Ty.aQ ts) ys->xs=ys
 |ts,[],[],h=>rfl
 |ts,x::xs,y::ys,h=>by simp only[By,zaD] at h;rw[Ty.Pt ts x y h.1,Ty.acz ts xs ys h.2]
 |ts,[],_::_,h=>by simp at h
 |ts,_::_,[],h=>by simp at h
theorem Ty.Pt:∀(ts:List Ty) (x y:Ty.DL ts),Ty.aQ ts x=Ty.aQ ts y->x=y
 |[],x,y,h=>rfl
 |[t],x,y,h=>by simp only[Ty.aQ,zaD,and_true] at h;exact Ty.acA t x y h
 |t::u::ts,x,y,h=>by simp only[Ty.aQ,zaD] at h;exact Prod.ext (Ty.acA t x.1 y.1 h.1) (Ty.Pt (u::ts) x.2 y.2 h.2)
end
theorem acx:∀(as:bu) (x y:cv as.cu),eG as x=eG as y->x=y
 |[],x,y,h=>rfl
 |[a],x,y,h=>by simp[eG] at h;exact Ty.Pt a.2 x y h
 |a::b::as,x,y,h=>by simp only[eG,zaD,Prod.mk.injEq,true_and] at h;exact Prod.ext (Ty.Pt a.2 x.1 y.1 h.1) (acx (b::as) x.2 y.2 h.2)
structure aF where
 id:FuncId
 args:bu
 mu:df
 aC:bu
 F:cv args.cu->Option (cv aC.cu)
open Classical in
noncomputable def aF.M (fn:aF) (ds:List Dv):Option (List Dv):=
 if h:∃x,eG fn.args x=ds then(fn.F h.choose).map (eG fn.aC) else none
theorem aF.CL (fn:aF) (x:cv fn.args.cu):fn.M (eG fn.args x)=(fn.F x).map (eG fn.aC):=by have h:∃y,eG fn.args y=eG fn.args x:=⟨x,rfl⟩;unfold aF.M;rw[dif_pos h,acx _ _ _ h.choose_spec]
theorem aF.Hc {fn:aF} {ds a:List Dv} (h:fn.M ds=some a):∃x y,ds=eG fn.args x/\fn.F x=some y/\a=eG fn.aC y:=by unfold aF.M at h;split at h;grind [zaP];cases h
def df.uh:df->Nat
 |[]=>0
 |s::l=>(s.filter Option.isSome).length+df.uh l
def AE (k:Nat) (rs:List Dv):List Dv×List C:=(rs.take k,(rs.drop k).flatMap (·.2))
noncomputable def aF.MM (fn:aF) (ds:List Dv):Option (List Dv×List C):=(fn.M ds).map (AE (fn.aC.length - fn.mu.uh))
def df.jH:df->Nat
 |[]=>0
 |[[some .bh]]=>2
 |[[some .bh],[]]=>2
 |[some .bh,some .bh]::_=>3
 |[some .bh,some .bh,some .bh]::_=>4
 |[some .bh,some .bh,some .bh,some .bh]::_=>5
 |_=>1
def df.own:df->Bool
 |[_,_]=>true
 |_=>false
def Mi:bu->Bool
 |[]=>false
 |(.ptr,_)::_=>true
 |_::as=>Mi as
def YO (as:bu):Nat:=match Mi as with
 |true=>1
 |false=>0
def xw (mu:df) (as:bu):Nat:=match mu.own with
 |true=>0
 |false=>YO as
noncomputable def aF.MV (fn:aF) (ds:List Dv):Option (List Dv×List C):=(fn.M ds).map (AE (fn.aC.length - xw fn.mu fn.args))
def aaS:List Dv->Option (Nat×Nat)
 |[(.one,[.int _ a]),(.one,[.int _ b])]=>some (a.toNat,(b - a).toNat)
 |_=>none
noncomputable def aF.MW (fn:aF) (ds:List Dv):Option (Nat×Nat):=(fn.M ds).bind aaS
def df.oD (s:df):Nat:=s.length - 2
noncomputable def aF.MX (fn:aF) (ds:List Dv):Option (List Dv×List C):=(fn.M ds).map (AE (fn.aC.length - 1))
noncomputable def dG (T:List aF):bz:=
 ⟨T.filterMap fun fn=>match fn.mu.jH with|0=>some (fn.id,fn.M)|_=>none,T.filterMap fun fn=>match fn.mu.jH with|1=>some (fn.id,fn.mu,fn.MM)|_=>none,
  T.filterMap fun fn=>match fn.mu.jH with|2=>some (fn.id,fn.mu.own,fn.MV)|_=>none,T.filterMap fun fn=>match fn.mu.jH with|3=>some (fn.id,fn.mu.tl,fn.MW)|_=>none,
  T.filterMap fun fn=>match fn.mu.jH with|4=>some (fn.id,fn.mu.oD,fn.MX)|_=>none,T.filterMap fun fn=>match fn.mu.jH with|5=>some (fn.id,fn.M)|_=>none⟩
def aF.find:List aF->FuncId->Option aF
 |[],_=>none
 |fn::l,f=>match zav f fn.id with
  |true=>some fn
  |false=>aF.find l f
theorem aF.ac7:∀{T:List aF} {f:FuncId} {fn:aF},aF.find T f=some fn->fn.mu.jH=0->bz.find (dG T).pure f=some fn.M
 |[],f,fn,h,_=>by simp[aF.find] at h
 |g::l,f,fn,h,hm=>by simp only[aF.find] at h;split at h;simp_all [dG,IN,bz.find];rename_i e;have a:bz.find (dG l).pure f=some fn.M:=aF.ac7 h hm;simp only[dG,IN] at a⊢;grind [bz.find,zaf]
theorem aF.ac5:∀{T:List aF} {f:FuncId} {fn:aF},aF.find T f=some fn->fn.mu.jH=1->bz.uo (dG T).DP f=some (fn.mu,fn.MM)
 |[],f,fn,h,_=>by simp[aF.find] at h
 |g::l,f,fn,h,hm=>by simp only[aF.find] at h;split at h;simp_all [dG,IN,bz.uo];rename_i e;have ih:bz.uo (dG l).DP f=some (fn.mu,fn.MM):=aF.ac5 h hm;grind [dG,bz.uo,zaf]
theorem aF.ac6:∀{T:List aF} {f:FuncId} {fn:aF},aF.find T f=some fn->fn.mu.jH=2->bz.rO (dG T).vs f=some (fn.mu.own,fn.MV)
 |[],f,fn,h,_=>by simp[aF.find] at h
 |g::l,f,fn,h,hm=>by simp only[aF.find] at h;split at h;simp_all [dG,IN,bz.rO];rename_i e;have ih:bz.rO (dG l).vs f=some (fn.mu.own,fn.MV):=aF.ac6 h hm;grind [dG,bz.rO,zaf]
def Cp (m:Mode) (σ:ak):Nat->List TD->Option (List SC×Nat×ak)
 |nm,[]=>some ([],nm,σ)
 |nm,⟨t,x⟩::cs=>match t,x with
  |.list ts,xs=>match σ.ins nm (.row m.yU m ts xs) with
   |some σ1=>match Cp m σ1 (nm+1) cs with
    |some (l,jN,σ2)=>some (.sl nm ts.length 0 (aa (α:=Ty.DL ts) xs)::l,jN,σ2)
    |none=>none
   |none=>none
  |.int k,x=>match Cp m σ nm cs with
   |some (l,jN,σ2)=>some (.v (.int k) x::l,jN,σ2)
   |none=>none
  |.bool,x=>match Cp m σ nm cs with
   |some (l,jN,σ2)=>some (.v .bool x::l,jN,σ2)
   |none=>none
theorem Sg (m:Mode):∀{cs:List TD} {σ σ1:ak} {nm c:Nat} {l:List SC},Cp m σ nm cs=some (l,c,σ1)-> σ.er.imp m nm (eK cs)=some (l.map SC.er,c,σ1.er)
 |[],σ,σ1,nm,c,l,h=>by simp only[Cp] at h;injection h with h;injection h with b a;injection a with a h3;subst b a h3;rfl
 |⟨.list ts,xs⟩::cs,σ,σ2,nm,c,l,h=>by simp only[Cp] at h;split at h;rename_i σ1 n;split at h;rename_i f g i d;injection h with h;injection h with b a;injection a with a h3;subst b a h3;have j:σ.er.ins nm (.row m.yU m ts.length (co (Ty.aQ ts) xs))=some σ1.er:=ak.uk n;have e:=Sg m d;simp only[eK] at e;simp only[eK,By,Ty.er,St.imp,j,e,SC.er];exact congrArg (fun q=>some (ao.sl nm ts.length 0 q::co SC.er f,g,i.er)) (AI (Ty.aQ ts));cases h;cases h
 |⟨.int k,x⟩::cs,σ,σ2,nm,c,l,h=>by simp only[Cp] at h;split at h;rename_i f g i d;injection h with h;injection h with b a;injection a with a h3;subst b a h3;have e:=Sg m d;simp_all [eK,By,Ty.er,St.imp,SC.er];cases h
 |⟨.bool,x⟩::cs,σ,σ2,nm,c,l,h=>by simp only[Cp] at h;split at h;rename_i f g i d;injection h with h;injection h with b a;injection a with a h3;subst b a h3;have e:=Sg m d;simp_all [eK,By,Ty.er,St.imp,SC.er];cases h
def K.isAgg:K->Bool
 |.agg=>true
 |_=>false
def K.Ab:K->Bool
 |.ptr=>true
 |_=>false
def D9 (m:Mode) (σ:ak):Nat->List cW->Option (List (Bool×List SC)×ak)
 |_,[]=>some ([],σ)
 |nm,(k,cs)::ds=>match k.Ab with
  |true=>none
  |false=>match Cp m σ nm cs with
   |some (l,jN,σ1)=>match D9 m σ1 jN ds with
    |some (ls,σ2)=>some ((k.isAgg,l)::ls,σ2)
    |none=>none
   |none=>none
theorem Oh (m:Mode):∀{ds:List cW} {σ σ1:ak} {nm:Nat} {b:List (Bool×List SC)},D9 m σ nm ds=some (b,σ1)-> σ.er.nQ m nm (ds.map cW.er)=some (b.map (fun x=>(x.1,x.2.map SC.er)),σ1.er)
 |[],σ,σ1,nm,b,h=>by simp only[D9] at h;injection h with h;injection h with c h2;subst c h2;rfl
 |(k,cs)::ds,σ,σ2,nm,b,h=>by simp only[D9] at h;split at h;cases h;rename_i j;split at h;rename_i l e σ1 f;split at h;rename_i g n i;injection h with h;injection h with c h2;subst c h2;have d:=Sg m f;have o:=Oh m i;have a:σ1.er.nQ m e (co cW.er ds)=some (g.map (fun x=>(x.1,x.2.map SC.er)),n.er):=o;(cases k with|ptr=>cases j|one=>simp only[By,cW.er,St.nQ,d,a];rfl|agg=>simp only[By,cW.er,St.nQ,d,a];rfl);cases h;cases h
def GC:List (Bool×List SC)->SV
 |[(ag,cs)]=>Kw ag cs
 |l=>.cT l
theorem Kl (l:List (Bool×List SC)):(GC l).er=pL (l.map fun x=>(x.1,x.2.map SC.er)):=by
 match l with
 |[]=>rfl
 |[(ag,cs)]=>exact OB ag cs
 |_::_::_=>rfl
section
variable {ρ:Type}
def ZI (T:List aF) (m:Mode) (d:Option Nat) (f:FuncId) (as:List SV) (σ:ak) (k:ak->Option ρ):Option ρ:=
 match aF.find T f with
 |some fn=>match fn.mu.jH with
  |0=>Oy σ.h as fun ds=>match rz fn.args ds with
   |some x=>(fn.F x).ae fun rs=>match D9 m σ (nT d) (nc fn.aC rs) with
    |some (ls,σ1)=>k (σ1.put d (GC ls))
    |none=>none
   |none=>none
  |_=>none
 |none=>none
theorem av5 {T:List aF} {m:Mode} {d:Option Nat} {f:FuncId} {as:List SV} {σ:ak} {k:ak->Option ρ} {r:ρ} (h:ZI T m d f as σ k=some r): ∃σ1:ak,C4 (dG T) m d f (as.map SV.er) σ.er=some σ1.er/\k σ1=some r:=by unfold ZI at h;split at h;rename_i fn l;split at h;rename_i c;obtain⟨ds,g,a⟩:=aas h;split at a;rename_i x hx;rw[fC] at a;obtain⟨rs,i,a⟩:=a;split at a;rename_i ls σ1 j;refine⟨_,?_,a⟩;have e:=Oh m j;rw[Bg] at e;have b:qk σ.er.h (as.map SV.er)=some (ds.map cW.er):=g;simp only[C4,b,aF.ac7 l c,wv hx,aF.CL,i,AT,e,ak.fJ,Kl];cases a;cases a;cases h;cases h
structure SHd where
 ts:List Ty
 x:Ty.DL ts
 as:bu
 y:cv as.cu
def YI:(as:bu)->(ts:List Ty)->Ty.DL ts->List cW->Option (cv as.cu)
 |[],_,_,_=>none
 |(kk,us)::as,ts,y,ds=>fH (K.beq kk .agg) (match Ty.wP ts us y,rz as ds with
  |some x,some z=>some (LB us (bu.cu as) x z)
  |_,_=>none)
theorem aqr:∀{as:bu} {ts:List Ty} {y:Ty.DL ts} {ds:List cW} {x:cv as.cu},YI as ts y ds=some x->(K.agg,Ty.aQ ts y)::ds.map cW.er=eG as x
 |[],ts,y,ds,x,h=>by cases h
 |(kk,us)::as,ts,y,ds,x,h=>by simp only[YI] at h;have c:=K.beq_eq (cR h).1;replace h:=(cR h).2;subst c;split at h;rename_i a b d e;injection h with h;subst h;have:=VE (.agg,us) as a b;rw[this,(Ty.akR d).1,wv e];cases h
def J2:List cW->Option (List (Bool×List SC))
 |[]=>some []
 |(k,cs)::ds=>match k.Ab with
  |true=>none
  |false=>match J2 ds with
   |some ls=>some ((k.isAgg,cs.map fun x=>SC.v x.1 x.2)::ls)
   |none=>none
theorem ZH:∀{ds:List cW} {a:List (Bool×List SC)},J2 ds=some a->qu (ds.map cW.er)=some (a.map fun x=>(x.1,x.2.map SC.er))
 |[],a,h=>by simp only[J2] at h;injection h with h;subst h;rfl
 |(k,cs)::ds,a,h=>by simp only[J2] at h;split at h;cases h;rename_i f;split at h;rename_i NE e;injection h with h;subst h;have b:=ZH e;have d:(eK cs).map ao.c=(cs.map fun x=>SC.v x.1 x.2).map SC.er:=(by simp[eK,SC.er]);(cases k with|ptr=>cases f|one=>simp only[By,cW.er,qu];rw[show qu (co cW.er ds)=_ from b];simp only;rw[d];rfl|agg=>simp only[By,cW.er,qu];rw[show qu (co cW.er ds)=_ from b];simp only;rw[d];rfl);cases h
def Ty.zA:Ty->Bool
 |.list ts=>Ty.io ts
 |_=>true
def aaJ:Mode->List Ty->Bool
 |.bi,ts=>Ty.io ts
 |.live,ts=>ts.all Ty.zA
 |.bh,_=>false
theorem yY (ts:List Ty) (xs:List (Ty.DL ts)) (h:Ty.io ts=true):gU (co (Ty.aQ ts) xs)=true:=by simp_all [gU,zaA,zab,Ty.JZ]
theorem acj (t:Ty) (x:t.D) (h:Ty.zA t=true):C.zA (t.er x)=true:=by cases t with|int k=>rfl|bool=>rfl|list ts=>exact yY ts x h
theorem aci:∀(ts:List Ty) (x:Ty.DL ts),ts.all Ty.zA=true->(Ty.aQ ts x).all C.zA=true
 |[],_,_=>rfl
 |[t],x,h=>by simp only[zaw,za0,zaM] at h;simp only[Ty.aQ,zaw,za0,zaM];exact acj t x h
 |t::u::ts,x,h=>by simp only[zaw (a:=t),BY] at h;simp only[Ty.aQ,zaw (a:=Ty.er t x.1),BY];exact⟨acj t x.1 h.1,aci (u::ts) x.2 h.2⟩
theorem ada (m:Mode) (ts:List Ty) (xs:List (Ty.DL ts)) (h:aaJ m ts=true):zD m (co (Ty.aQ ts) xs)=true:=by cases m with|bh=>cases h|bi=>exact yY ts xs h|live=>simp only[zD,zaA,zab];rintro e ⟨x,_,rfl⟩;have:=aci ts x h;simp_all
def Mode.Np:Mode->Bool
 |.live=>true
 |_=>false
def Mode.afe:Mode->Bool
 |.bi=>true
 |_=>false
def Z3 (h:Nat->Option SB) (md:Mode) (c:SC) (k:e7->(t:Ty)->t.D->Option ρ):Option ρ:=
 match c with
 |.nil ts=>match ts with
  |[]=>none
  |t::us=>fH md.own (k (.nil (us.length+1)) (.list (t::us)) ([]:List (Ty.DL (t::us))))
 |.sl n sz lo len=>match h n with
  |some (.row gr m ts xs)=>fH (m.own&&((!md.Np||m.Np)&&(aaJ md ts&&(!m.Np|| !gr)))) (dq ts.length sz ((aU lo len (aa xs)).ae fun _=>k (.row n) (.list ts) xs))
  |_=>none
 |.cF n kk aZ off sz len=>match h n with
  |some (.row false .live ts xs)=>fH md.afe (dq ts.length aZ ((bL xs kk).ae fun e=>match(Ty.jF ts e)[off]? with
   |some ⟨.list us,ys⟩=>fH (Ty.io us) (k (.nest n kk off) (.list us) ys)
   |_=>none))
  |_=>none
 |_=>none
theorem awl {h:Nat->Option SB} {a:Mode} {c:SC} {k:e7->(t:Ty)->t.D->Option ρ} {r:ρ} (hx:Z3 h a c k=some r): ∃(it:e7) (t:Ty) (x:t.D),yT (eM h) a c.er=some (it,t.er x)/\k it t x=some r:=by unfold Z3 at hx;split at hx;split at hx;cases hx;rename_i t us;have hm:=(cR hx).1;replace hx:=(cR hx).2;refine⟨_,.list (t::us),[],?_,hx⟩;have f:a≠ .bh:=(by rintro rfl;cases hm);simp[SC.er,yT,Ty.er,f];rename_i n sz lo len;split at hx;rename_i gr m ts xs hn;have hm:=(cR hx).1;replace hx:=(cR hx).2;have b:=(bn hx).1;replace hx:=(bn hx).2;subst b;rw[fC] at hx;obtain⟨_,g,hx⟩:=hx;have p:lo=0/\len=aa xs:=(by unfold aU at g;split at g;assumption;cases g);obtain⟨rfl,rfl⟩:=p;simp only[BY] at hm;have f:m≠ .bh:=(by rintro rfl;cases hm.1);have o:a=.live->m=.live:=(by rintro rfl;have:=hm.2.1;cases m<;>first|rfl|(simp[Mode.Np] at this));refine⟨_,.list ts,xs,?_,hx⟩;simp only[SC.er,yT,eM,hn,AT,SB.er,Ty.er];rw[ai ⟨f,o,trivial,trivial,(AI (Ty.aQ ts)).symm,ada a ts xs hm.2.2.1,fun hl=>by simp_all [Mode.Np]⟩];cases hx;rename_i n i aZ off sz len;split at hx;rename_i ts xs hn;have hm:=(cR hx).1;replace hx:=(cR hx).2;have b:=(bn hx).1;replace hx:=(bn hx).2;subst b;rw[fC] at hx;obtain⟨e,d,hx⟩:=hx;replace d:xs[i]? =some e:=d;split at hx;rename_i us ys hd;have q:=(cR hx).1;replace hx:=(cR hx).2;refine⟨_,.list us,ys,?_,hx⟩;have j:a=.bi:=(by cases a<;>first|rfl|(simp[Mode.afe] at hm));have l:=Pj hd;simp only[SC.er,yT,eM,hn,AT,SB.er,GB,d,zai,l,Ty.er,j,and_self,if_true];rw[ai (yY us ys q)];cases hx;cases hx;cases hx
def SC.nm:SC->List Nat
 |.sl n _ _ _=>[n]
 |.cF n _ _ _ _ _=>[n]
 |_=>[]
theorem SC.ar1 (c:SC):c.er.g0.toList=c.nm:=by cases c<;>rfl
def Ke:List (Option Mode)->List SC->List Nat
 |some _::fs,c::cs=>c.nm++Ke fs cs
 |none::fs,_::cs=>Ke fs cs
 |_,_=>[]
theorem Z4:∀(a:List (Option Mode)) (cs:List SC),sj a (cs.map SC.er)=Ke a cs
 |some m::a,c::cs=>by simp only[By,sj,Ke,SC.ar1,Z4 a cs]
 |none::a,c::cs=>by simp only[By,sj,Ke,Z4 a cs]
 |[],cs=>by cases cs<;>rfl
 |some m::a,[]=>rfl
 |none::a,[]=>rfl
def Eb:df->List (Bool×List SC)->List Nat
 |s::sig,a::as=>Ke s a.2++Eb sig as
 |_,_=>[]
theorem Sm:∀(sig:df) (as:List (Bool×List SC)),tz sig (as.map fun x=>(x.1,x.2.map SC.er))=Eb sig as
 |s::sig,a::as=>by simp only[By,tz,Eb,Z4,Sm sig as]
 |[],as=>by cases as<;>rfl
 |s::sig,[]=>rfl
def Of (h:Nat->Option SB) (ns:List Nat):Nat->Option SB:=fun n=>match ns.contains n with|true=>none|false=>h n
theorem ZV (h:Nat->Option SB) (ns:List Nat):eM (Of h ns)=fq (eM h) ns:=by grind [eM,Of,fq]
def Cq (h h0:Nat->Option SB):List (Option Mode)->List SC->(List TD->List (e7×Mode)->Option ρ)->Option ρ
 |[],cs,k=>GK h0 cs fun l=>k l []
 |none::fs,c::cs,k=>Cs h0 c fun t x=>Cq h h0 fs cs fun l its=>k (⟨t,x⟩::l) its
 |some md::fs,c::cs,k=>Z3 h md c fun it t x=>Cq h h0 fs cs fun l its=>k (⟨t,x⟩::l) ((it,md)::its)
 |_::_,[],_=>none
theorem Z2 {h e:Nat->Option SB}:∀{b:List (Option Mode)} {cs:List SC} {k:List TD->List (e7×Mode)->Option ρ} {r:ρ},Cq h e b cs k=some r-> ∃l a,o8 (eM h) (eM e) b (cs.map SC.er)=some (eK l,a)/\k l a=some r
 |[],cs,k,r,hx=>by simp only[Cq] at hx;obtain⟨l,f,d⟩:=Oz hx;grind [o8]
 |none::b,c::cs,k,r,hx=>by simp only[Cq] at hx;obtain⟨t,x,f,d⟩:=GJ hx;obtain⟨l,a,i,g⟩:=Z2 d;grind [o8,eK]
 |some md::b,c::cs,k,r,hx=>by simp only[Cq] at hx;obtain⟨it,t,x,f,d⟩:=awl hx;obtain⟨l,a,i,g⟩:=Z2 d;grind [o8,eK]
 |none::b,[],k,r,hx=>by simp[Cq] at hx
 |some md::b,[],k,r,hx=>by simp[Cq] at hx
def QM:Bool->K
 |true=>.agg
 |false=>.one
def Kf (h h0:Nat->Option SB):df->List (Bool×List SC)->(List cW->List (e7×Mode)->Option ρ)->Option ρ
 |_,[],k=>k [] []
 |sig,(ag,cs)::as,k=>Cq h h0 sig.hd cs fun l its=>Kf h h0 sig.tl as fun ds BU=>k ((QM ag,l)::ds) (its++BU)
theorem Sn {h b:Nat->Option SB}:∀{as:List (Bool×List SC)} {sig:df} {k:List cW->List (e7×Mode)->Option ρ} {r:ρ},Kf h b sig as k=some r-> ∃ds a,qJ (eM h) (eM b) sig (as.map fun x=>(x.1,x.2.map SC.er))=some (ds.map cW.er,a)/\k ds a=some r
 |[],sig,k,r,hx=>⟨[],[],by simp only[zaQ,qJ],hx⟩
 |(ag,cs)::as,sig,k,r,hx=>by simp only[Kf] at hx;obtain⟨l,a,e,c⟩:=Z2 hx;obtain⟨ds,BU,f,d⟩:=Sn c;refine⟨_,_,?_,d⟩;simp only[By,qJ,e,f,cW.er];cases ag<;>rfl
def Gx:List SV->Option (List (Bool×List SC))
 |[]=>some []
 |v::vs=>match v.cells?,Gx vs with
  |some x,some xs=>some (x::xs)
  |_,_=>none
theorem Sl:∀{as:List SV} {a:List (Bool×List SC)},Gx as=some a->wu (as.map SV.er)=some (a.map fun x=>(x.1,x.2.map SC.er))
 |[],a,h=>by simp only[Gx] at h;injection h with h;subst h;rfl
 |v::vs,a,h=>by simp only[Gx] at h;split at h;rename_i x xs c d;injection h with h;subst h;obtain⟨b,cs⟩:=x;simp only[By,wu,SV.pq c,Sl d];cases h
def Od (ts:List Ty) (e:Ty.DL ts) (off:Nat) (x:TD):Option (Ty.DL ts):=uQ ts ((Ty.jF ts e).set off x)
theorem ZS {ts:List Ty} {e a:Ty.DL ts} {off:Nat} {x:TD} (h:Od ts e off x=some a):Ty.aQ ts a=(Ty.aQ ts e).set off (x.1.er x.2):=by have:=Aq h;rw[this,eK,zam,<-Ty.rK ts e];rfl
def Z8 (σ:ak) (it:e7) (x:TD) (k:ak->Option ρ):Option ρ:=
 match it with
 |.nil _=>k σ
 |.row n=>match x with
  |⟨.list ts,xs⟩=>match σ.h n with
   |some (.row gr m us _)=>dq us.length ts.length (k (σ.fQ n (.row gr m ts xs)))
   |_=>none
  |_=>none
 |.nest n kk off=>match σ.h n with
  |some (.row gr m us xs)=>(bL xs kk).ae fun e=>match Od us e off x with
   |some e'=>k (σ.fQ n (.row gr m us (br xs kk e')))
   |none=>none
  |_=>none
theorem aws {σ:ak} {it:e7} {x:TD} {k:ak->Option ρ} {r:ρ} (hx:Z8 σ it x k=some r):∃σ1,σ.er.tG it (x.1.er x.2)=some σ1.er/\k σ1=some r:=by unfold Z8 at hx;split at hx;exact⟨σ,rfl,hx⟩;rename_i n;split at hx;rename_i ts xs;split at hx;rename_i a m us ys hn;have bI:=(bn hx).1;replace hx:=(bn hx).2;refine⟨_,?_,hx⟩;have c:σ.er.h n=some (.row a m us.length (co (Ty.aQ us) ys)):=(by simp[ak.er,eM,hn,SB.er]);simp_all [St.tG,Ty.er,if_true,ak.sK,SB.er];cases hx;cases hx;rename_i n d off;split at hx;rename_i a m us xs hn;rw[fC] at hx;obtain⟨e,b,hx⟩:=hx;replace b:xs[d]? =some e:=b;split at hx;rename_i e' f;refine⟨_,?_,hx⟩;have c:σ.er.h n=some (.row a m us.length (co (Ty.aQ us) xs)):=(by simp[ak.er,eM,hn,SB.er]);simp only[St.tG,c,GB,b,AT,ak.sK,SB.er,br,zam,ZS f];cases hx;cases hx
def GA (σ:ak):List (e7×Mode)->List TD->(ak->Option ρ)->Option ρ
 |[],[],k=>k σ
 |it::its,x::xs,k=>Z8 σ it.1 x fun σ1=>GA σ1 its xs k
 |_,_,_=>none
theorem Z9:∀{a:List (e7×Mode)} {xs:List TD} {σ:ak} {k:ak->Option ρ} {r:ρ},GA σ a xs k=some r->∃σ1,σ.er.wx a (eK xs)=some σ1.er/\k σ1=some r
 |[],[],σ,k,r,hx=>⟨σ,rfl,hx⟩
 |it::a,x::xs,σ,k,r,hx=>by simp only[GA] at hx;obtain⟨σ1,h1,b⟩:=aws hx;obtain⟨σ2,h3,h4⟩:=Z9 b;grind [eK,St.wx]
 |[],_::_,σ,k,r,hx=>by simp[GA] at hx
 |_::_,[],σ,k,r,hx=>by simp[GA] at hx
def NO:List Nat->Bool
 |[]=>true
 |n::l=> !(l.contains n)&&NO l
theorem YS:∀{l:List Nat},NO l=true->l.Nodup
 |[],_=>List.nodup_nil
 |n::l,h=>by simp only[NO,BY,zax] at h;rw[List.nodup_cons];refine⟨fun hm=>?_,YS h.2⟩;simp_all
def ZK (T:List aF) (m:Mode) (d:Option Nat) (f:FuncId) (as:List SV) (σ:ak) (k:ak->Option ρ):Option ρ:=
 match aF.find T f with
 |some fn=>match fn.mu.jH with
  |1=>match Gx as with
   |some gh=>fH (NO (Eb fn.mu gh)) (Kf σ.h (Of σ.h (Eb fn.mu gh)) fn.mu gh fun ds its=>match rz fn.args ds with
    |some x=>(fn.F x).ae fun y=>GA σ its (((nc fn.aC y).drop (fn.aC.length - fn.mu.uh)).flatMap (·.2)) fun σ1=>match D9 m σ1 (nT d) ((nc fn.aC y).take (fn.aC.length - fn.mu.uh)) with
     |some (ls,σ2)=>k (σ2.put d (GC ls))
     |none=>none
    |none=>none)
   |none=>none
  |_=>none
 |none=>none
theorem Kj (k:Nat) (l:List cW):AE k (l.map cW.er)=((l.take k).map cW.er,eK ((l.drop k).flatMap (·.2))):=by simp only[AE,<-zan,<-zat];congr 1;induction l.drop k with|nil=>rfl|cons d l a=>simp only[By,List.flatMap_cons,a,eK,za1,cW.er]
theorem av0 {T:List aF} {m:Mode} {d:Option Nat} {f:FuncId} {as:List SV} {σ:ak} {k:ak->Option ρ} {r:ρ} (h:ZK T m d f as σ k=some r): ∃σ1:ak,wT (dG T) m d f (as.map SV.er) σ.er=some σ1.er/\k σ1=some r:=by unfold ZK at h;split at h;rename_i fn p;split at h;rename_i j;split at h;rename_i gh i;have o:=YS (cR h).1;replace h:=(cR h).2;obtain⟨ds,its,c,a⟩:=Sn h;split at a;rename_i x hx;rw[fC] at a;obtain⟨y,l,a⟩:=a;obtain⟨σ1,g,b⟩:=Z9 a;split at b;rename_i ls σ2 n;refine⟨_,?_,b⟩;have e:=Oh m n;have q:fn.MM (eG fn.args x)=some (((nc fn.aC y).take (fn.aC.length - fn.mu.uh)).map cW.er,eK (((nc fn.aC y).drop (fn.aC.length - fn.mu.uh)).flatMap (·.2))):=(by unfold aF.MM;rw[aF.CL,l];simp only[AT];rw[<-Bg,Kj]);have hh:σ.er.h=eM σ.h:=rfl;rw[ZV] at c;simp only[wT,aF.ac5 p j,Sl i,Sm,ai o,hh,c,wv hx,q,g,e,ak.fJ,Kl];cases b;cases a;cases h;cases h;cases h
def D8:List SC->Option (List TD)
 |[]=>some []
 |.v t x::cs=>match D8 cs with
  |some l=>some (⟨t,x⟩::l)
  |none=>none
 |.nil (t::us)::cs=>match D8 cs with
  |some l=>some (⟨.list (t::us),([]:List (Ty.DL (t::us)))⟩::l)
  |none=>none
 |_::_=>none
theorem Og:∀{cs:List SC} {l:List TD},D8 cs=some l->oQ (cs.map SC.er)=some (eK l)
 |[],l,h=>by simp only[D8] at h;injection h with h;subst h;rfl
 |c::cs,l,h=>by unfold D8 at h;split at h;simp_all;rename_i t x cs' e;injection e with a e2;subst a e2;split at h;rename_i b e;injection h with h;subst h;simp only[By,oQ,SC.er,uE,Og e,eK];cases h;rename_i t us cs' e;injection e with a e2;subst a e2;split at h;rename_i b e;injection h with h;subst h;simp[oQ,SC.er,uE,Og e,eK,Ty.er];cases h;cases h
def RQ (h:Nat->Option SB) (n kk off:Nat):Option (List TD):=
 match kk,off with
 |0,0=>match h n with
  |some (.box cs)=>D8 cs
  |_=>none
 |_,_=>none
theorem ahF {h:Nat->Option SB} {n a sz off:Nat} {l:List TD} (e:RQ h n a off=some l):vt (eM h) (SV.er (.one (.ptr n a sz off)))=some (n,eK l):=by unfold RQ at e;split at e;split at e;rename_i cs hn;simp[SV.er,SC.er,vt,eM,hn,SB.er,Og e];cases e;cases e
def SV.tF:SV->Option (Nat×Nat×Nat)
 |.one (.ptr n kk _ off)=>some (n,kk,off)
 |_=>none
theorem ag0 {v:SV} (h:v.tF=none) (hh:Nat->Option aV):vt hh v.er=none:=by cases v with|one c=>(cases c<;>first|rfl|(simp[SV.tF] at h))|agg cs=>rfl|cT xs=>rfl|arr ts x=>rfl|pN ts x xs=>rfl
theorem ag1 {v:SV} {n a off:Nat} (h:v.tF=some (n,a,off)):∃sz,v=.one (.ptr n a sz off):=by cases v with|one c=>cases c<;>simp[SV.tF] at h;simp_all|agg cs=>simp[SV.tF] at h|cT xs=>simp[SV.tF] at h|arr ts x=>simp[SV.tF] at h|pN ts x xs=>simp[SV.tF] at h
def Ob (σ:ak):List SV->(List cW->List Nat->ak->Option ρ)->Option ρ
 |[],k=>k [] [] σ
 |v::vs,k=>match v.tF with
  |some (n,kk,off)=>match RQ σ.h n kk off with
   |some l=>Ob σ vs fun ds ns σ1=>k ((.ptr,l)::ds) (n::ns) σ1
   |none=>none
  |none=>match v.cells? with
   |some (ag,cs)=>Kp σ cs fun l _ σ1=>Ob σ1 vs fun ds ns σ2=>k ((QM ag,l)::ds) ns σ2
   |none=>none
theorem ZD:∀{vs:List SV} {σ:ak} {k:List cW->List Nat->ak->Option ρ} {r:ρ},Ob σ vs k=some r-> ∃ds ns σ1,σ.er.lE (vs.map SV.er)=some (ds.map cW.er,ns,σ1.er)/\k ds ns σ1=some r
 |[],σ,k,r,h=>⟨[],[],σ,rfl,h⟩
 |v::vs,σ,k,r,h=>by simp only[Ob] at h;split at h;rename_i n kk off a;obtain⟨sz,rfl⟩:=ag1 a;split at h;rename_i l hl;obtain⟨ds,ns,σ1,c,b⟩:=ZD h;refine⟨_,_,σ1,?_,b⟩;have:=ahF (sz:=sz) hl;have hh:σ.er.h=eM σ.h:=rfl;simp_all [By,St.lE,cW.er];cases h;rename_i a;split at h;rename_i ag cs f;obtain⟨l,o,σ1,c,b⟩:=SG h;obtain⟨ds,ns,σ2,e,d⟩:=ZD b;refine⟨_,_,σ2,?_,d⟩;simp only[By,St.lE,ag0 a,SV.pq f,c,e,cW.er];cases ag<;>rfl;cases h
def Z7 (σ:ak) (ns:List Nat) (out:List TD) (k:ak->Option ρ):Option ρ:=
 match ns,out with
 |[],[]=>k σ
 |[n],[]=>match σ.h n with
  |some (.box _)=>k (σ.fQ n (.box []))
  |_=>none
 |[n],out=>match σ.h n with
  |some (.box cs)=>dq cs.length out.length (k (σ.fQ n (.box (out.map fun x=>.v x.1 x.2))))
  |_=>none
 |_,_=>none
theorem aaQ (out:List TD):(out.map fun x=>SC.v x.1 x.2).map SC.er=(eK out).map .c:=by simp[eK,SC.er]
theorem awr {σ:ak} {ns:List Nat} {out:List TD} {k:ak->Option ρ} {r:ρ} (h:Z7 σ ns out k=some r):∃σ1,σ.er.uW ns (eK out)=some σ1.er/\k σ1=some r:=by unfold Z7 at h;split at h;exact⟨σ,rfl,h⟩;rename_i n;split at h;rename_i cs hn;refine⟨_,?_,h⟩;have a:σ.er.h n=some (.box (cs.map SC.er)):=(by simp[ak.er,eM,hn,SB.er]);simp only[St.uW,a];rw[ai (.inr rfl),ak.sK,SB.er];rfl;cases h;rename_i _ n _;split at h;rename_i cs hn;have b:=(bn h).1;replace h:=(bn h).2;refine⟨_,?_,h⟩;have a:σ.er.h n=some (.box (cs.map SC.er)):=(by simp[ak.er,eM,hn,SB.er]);simp only[St.uW,a,AI];rw[ai (.inl (by rw[b,eK,AI])),ak.sK,SB.er,aaQ];cases h;cases h
def cW.tF:List cW->Option (List TD)
 |[(.ptr,cs)]=>some cs
 |_=>none
theorem av6 {a:List cW} {cs:List TD} (h:cW.tF a=some cs):a=[(.ptr,cs)]:=by unfold cW.tF at h;grind
def ZE (σ:ak) (d:Option Nat) (rs:List cW) (k:ak->Option ρ):Option ρ:=
 match cW.tF rs with
 |some cs=>match d with
  |some q=>match σ.ins q (.box (cs.map fun x=>.v x.1 x.2)) with
   |some σ1=>k (σ1.put d (.one (.ptr q 0 0 0)))
   |none=>none
  |none=>none
 |none=>match J2 rs with
  |some ls=>k (σ.put d (GC ls))
  |none=>none
theorem auC {σ:ak} {d:Option Nat} {a:List cW} {k:ak->Option ρ} {r:ρ} (h:ZE σ d a k=some r):∃σ1,vu σ.er d (a.map cW.er)=some σ1.er/\k σ1=some r:=by
 unfold ZE at h;split at h
 ·rename_i cs i;have:=av6 i;subst this;split at h
  ·rename_i q;split at h
   ·rename_i σ1 g;refine⟨_,?_,h⟩;have e:=ak.uk g;rw[SB.er,aaQ] at e;simp only[By,zaQ,cW.er,vu,e,ak.fJ];rfl
   ·cases h
  ·cases h
 ·split at h
  ·rename_i b f;refine⟨_,?_,h⟩;have e:=ZH f;have c:vu σ.er d (a.map cW.er)=match qu (a.map cW.er) with
     |some b=>some (σ.er.put d (pL b))
     |none=>none:=by
    unfold vu;split
    ·simp_all [qu]
    ·rfl
   rw[c,e,ak.fJ,Kl]
  ·cases h
def ZF (σ:ak) (d:Option Nat):Bool->List cW->(ak->Option ρ)->Option ρ
 |false,rs,k=>ZE σ d rs k
 |true,rs,k=>match D9 .live σ (nT d) rs with
  |some (ls,σ1)=>k (σ1.put d (GC ls))
  |none=>none
theorem auB {σ:ak} {d:Option Nat} {o:Bool} {a:List cW} {k:ak->Option ρ} {r:ρ} (h:ZF σ d o a k=some r):∃σ1,vv σ.er d o (a.map cW.er)=some σ1.er/\k σ1=some r:=by cases o with|false=>exact auC h|true=>simp only[ZF] at h;split at h;rename_i ls σ1 b;exact⟨_,by simp only[vv,Oh .live b,ak.fJ,Kl],h⟩;cases h
def ZJ (T:List aF) (d:Option Nat) (f:FuncId) (as:List SV) (σ:ak) (k:ak->Option ρ):Option ρ:=
 match aF.find T f with
 |some fn=>match fn.mu.jH with
  |2=>Ob σ as fun ds ns σ1=>match rz fn.args ds with
   |some x=>(fn.F x).ae fun y=>Z7 σ1 ns (((nc fn.aC y).drop (fn.aC.length - xw fn.mu fn.args)).flatMap (·.2)) fun σ2=>ZF σ2 d fn.mu.own ((nc fn.aC y).take (fn.aC.length - xw fn.mu fn.args)) k
   |none=>none
  |_=>none
 |none=>none
theorem avZ {T:List aF} {d:Option Nat} {f:FuncId} {as:List SV} {σ:ak} {k:ak->Option ρ} {r:ρ} (h:ZJ T d f as σ k=some r): ∃σ1:ak,vD (dG T) d f (as.map SV.er) σ.er=some σ1.er/\k σ1=some r:=by unfold ZJ at h;split at h;rename_i fn n;split at h;rename_i i;obtain⟨ds,ns,σ1,j,a⟩:=ZD h;split at a;rename_i x hx;rw[fC] at a;obtain⟨y,l,a⟩:=a;obtain⟨σ2,g,b⟩:=awr a;obtain⟨m,e,c⟩:=auB b;refine⟨m,?_,c⟩;have o:fn.MV (eG fn.args x)=some (((nc fn.aC y).take (fn.aC.length - xw fn.mu fn.args)).map cW.er,eK (((nc fn.aC y).drop (fn.aC.length - xw fn.mu fn.args)).flatMap (·.2))):=(by unfold aF.MV;rw[aF.CL,l];simp only[AT];rw[<-Bg,Kj]);simp only[vD,j,aF.ac6 n i,wv hx,o,g,e];cases a;cases h;cases h
def aF.q9 (k:Nat):List aF->FuncId->Option aF
 |[],_=>none
 |fn::l,f=>match zav f fn.id&&zav fn.mu.jH k with
  |true=>some fn
  |false=>aF.q9 k l f
theorem aF.ac2:∀{T:List aF} {f:FuncId} {fn:aF},aF.q9 2 T f=some fn->bz.rO (dG T).vs f=some (fn.mu.own,fn.MV)
 |[],f,fn,h=>by simp[aF.q9] at h
 |g::l,f,fn,h=>by simp only[aF.q9] at h;split at h;simp_all [BY,dG,IN,bz.rO];rename_i e;have ih:bz.rO (dG l).vs f=some (fn.mu.own,fn.MV):=aF.ac2 h;grind [dG,bz.rO,zaf]
theorem aF.ac3:∀{T:List aF} {f:FuncId} {fn:aF},aF.q9 3 T f=some fn->bz.ye (dG T).ws f=some (fn.mu.tl,fn.MW)
 |[],f,fn,h=>by simp[aF.q9] at h
 |g::l,f,fn,h=>by simp only[aF.q9] at h;split at h;simp_all [BY,dG,IN,bz.ye];rename_i e;have ih:bz.ye (dG l).ws f=some (fn.mu.tl,fn.MW):=aF.ac3 h;grind [dG,bz.ye,zaf]
theorem aF.ac4:∀{T:List aF} {f:FuncId} {fn:aF},aF.q9 4 T f=some fn->bz.yf (dG T).xs f=some (fn.mu.oD,fn.MX)
 |[],f,fn,h=>by simp[aF.q9] at h
 |g::l,f,fn,h=>by simp only[aF.q9] at h;split at h;simp_all [BY,dG,IN,bz.yf];rename_i e;have a:bz.yf (dG l).xs f=some (fn.mu.oD,fn.MX):=aF.ac4 h;simp only[dG,IN] at a⊢;grind [bz.yf,zaf]
theorem aF.ac1:∀{T:List aF} {f:FuncId} {fn:aF},aF.q9 5 T f=some fn->bz.find (dG T).ns f=some fn.M
 |[],f,fn,h=>by simp[aF.q9] at h
 |g::l,f,fn,h=>by simp only[aF.q9] at h;split at h;simp_all [BY,dG,IN,bz.find];rename_i e;have a:bz.find (dG l).ns f=some fn.M:=aF.ac1 h;simp only[dG,IN] at a⊢;grind [bz.find,zaf]
def aat (T:List cW) (i:Nat):Bool:=match T[i]? with
 |some (.one,[⟨.list [.int .i64],_⟩])=>true
 |_=>false
theorem awG {ds:List cW} {i:Nat} (h:aat ds i=true):∃ys,(ds.map cW.er)[i]? =some (.one,[.list 1 ys]):=by unfold aat at h;split at h;rename_i x e;exact⟨_,by rw[GB,e];rfl⟩;cases h
def sdI (a:Int):cW:=(.one,[⟨.int .i64,a⟩])
def ZO (T:List aF) (m:Mode) (d:Option Nat) (f:FuncId) (as:List SV) (σ:ak) (k:ak->Option ρ):Option ρ:=
 match aF.q9 4 T f with
 |some fn=>match as[fn.mu.oD]? with
  |some (.one (.sl n s lo len))=>match σ.h n with
   |some (.row _ _ ts xs)=>dq s 1 (dq ts.length 1 ((bL xs lo).ae fun _=>(cr xs lo len).ae fun _=>match Gx (as.set fn.mu.oD (.one (.sl n 1 0 (aa xs)))) with
    |some gh=>fH (NO (Eb (pi fn.mu.oD) gh)) (Kf σ.h (Of σ.h (Eb (pi fn.mu.oD) gh)) (pi fn.mu.oD) gh fun ds its=>fH (aat ds fn.mu.oD) (match rz fn.args (sdI (aK lo)::sdI (aK (au lo len))::ds) with
     |some x=>(fn.F x).ae fun y=>GA σ its (((nc fn.aC y).drop (fn.aC.length - 1)).flatMap (·.2)) fun σ1=>match D9 m σ1 (nT d) ((nc fn.aC y).take (fn.aC.length - 1)) with
      |some (ls,σ2)=>k (σ2.put d (GC ls))
      |none=>none
     |none=>none))
    |none=>none))
   |_=>none
  |_=>none
 |none=>none
theorem av4 {T:List aF} {m:Mode} {d:Option Nat} {f:FuncId} {as:List SV} {σ:ak} {k:ak->Option ρ} {r:ρ} (h:ZO T m d f as σ k=some r): ∃σ1:ak,Bi (dG T) m d f (as.map SV.er) σ.er=some σ1.er/\k σ1=some r:=by unfold ZO at h;split at h;rename_i fn L;split at h;rename_i n s lo len M;split at h;rename_i q p ts xs N;have i:=(bn h).1;replace h:=(bn h).2;have c:=(bn h).1;replace h:=(bn h).2;rw[fC] at h;obtain⟨A,u,h⟩:=h;rw[fC] at h;obtain⟨wl,g,h⟩:=h;subst i;have t:lo<xs.length:=(If.1 (show xs[lo]? =some A from u)).1;have J:lo+len<=xs.length:=(by unfold cr at g;split at g;rename_i j;exact j;cases g);split at h;rename_i gh j;have K:=YS (cR h).1;replace h:=(cR h).2;obtain⟨ds,its,o,a⟩:=Sn h;have v:=awG (cR a).1;replace a:=(cR a).2;obtain⟨ys,G⟩:=v;split at a;rename_i x hx;rw[fC] at a;obtain⟨y,H,a⟩:=a;obtain⟨σ1,z,b⟩:=Z9 a;split at b;rename_i ls σ2 I;refine⟨_,?_,b⟩;have e:=Oh m I;have w:fn.MX (eG fn.args x)=some (((nc fn.aC y).take (fn.aC.length - 1)).map cW.er,eK (((nc fn.aC y).drop (fn.aC.length - 1)).flatMap (·.2))):=(by unfold aF.MX;rw[aF.CL,H];simp only[AT];rw[<-Bg,Kj]);have hh:σ.er.h=eM σ.h:=rfl;have E:σ.er.h n=some (.row q p ts.length (co (Ty.aQ ts) xs)):=(by simp[ak.er,eM,N,SB.er]);have C:dI lo::dI (lo+len)::ds.map cW.er=eG fn.args x:=wv hx;have B:xM fn.mu.oD lo (lo+len) fn.MX (ds.map cW.er)=some (((nc fn.aC y).take (fn.aC.length - 1)).map cW.er,eK (((nc fn.aC y).drop (fn.aC.length - 1)).flatMap (·.2))):=(by unfold xM;rw[G];simp only;rw[C,w]);have l:KE σ.er.h (.one (.sl n 1 lo len))=some (n,lo,len,xs.length):=(by unfold KE;simp only[E];rw[ai ⟨trivial,c,by rw[AI];exact t,by rw[AI];exact J⟩,AI]);have D:(as.map SV.er)[fn.mu.oD]? =some (.one (.sl n 1 lo len)):=(by rw[GB,M];rfl);have F:(as.map SV.er).set fn.mu.oD (.one (.sl n 1 0 xs.length))=(as.set fn.mu.oD (.one (.sl n 1 0 (aa xs)))).map SV.er:=(by rw[zam];rfl);rw[ZV] at o;unfold Bi;rw[aF.ac4 L];simp only[D,l,F];unfold wT;simp only[bz.uo,if_true,Sl j,Sm,ai K,hh,o,B,z,e,ak.fJ,Kl];cases b;cases a;cases h;cases h;cases h;cases h
def Oq:List SV->Option (List cW)
 |[]=>some []
 |v::vs=>match v.cells? with
  |some (ag,cs)=>match D8 cs with
   |some l=>match Oq vs with
    |some ds=>some ((QM ag,l)::ds)
    |none=>none
   |none=>none
  |none=>none
theorem aiN:∀{vs:List SV} {ds:List cW},Oq vs=some ds->Gp (vs.map SV.er)=some (ds.map cW.er)
 |[],ds,h=>by simp only[Oq] at h;injection h with h;subst h;rfl
 |v::vs,ds,h=>by simp only[Oq] at h;split at h;rename_i ag cs a;split at h;rename_i l hl;split at h;rename_i Bj hd;injection h with h;subst h;simp only[By,Gp,SV.pq a,Og hl,aiN hd,cW.er];cases ag<;>rfl;cases h;cases h;cases h
def ZM (T:List aF) (d:Option Nat) (f:FuncId) (as:List SV) (σ:ak) (k:ak->Option ρ):Option ρ:=
 match aF.q9 2 T f with
 |some fn=>match Oq as with
  |some ds=>match rz fn.args ds with
   |some x=>(fn.F x).ae fun y=>match((nc fn.aC y).drop (fn.aC.length - xw fn.mu fn.args)).flatMap (·.2) with
    |[]=>fH (!fn.mu.own)<|match J2 ((nc fn.aC y).take (fn.aC.length - xw fn.mu fn.args)) with
     |some ls=>k (σ.put d (GC ls))
     |none=>none
    |_=>none
   |none=>none
  |none=>none
 |none=>none
theorem av2 {T:List aF} {d:Option Nat} {f:FuncId} {as:List SV} {σ:ak} {k:ak->Option ρ} {r:ρ} (h:ZM T d f as σ k=some r): ∃v:SV,EY (dG T) f (as.map SV.er)=some v.er/\k (σ.put d v)=some r:=by unfold ZM at h;split at h;rename_i fn g;split at h;rename_i ds hd;split at h;rename_i x hx;rw[fC] at h;obtain⟨y,c,h⟩:=h;split at h;rename_i b;have a:=(cR h).1;replace h:=(cR h).2;rw[zax] at a;split at h;rename_i ls e;refine⟨_,?_,h⟩;have i:fn.MV (eG fn.args x)=some (((nc fn.aC y).take (fn.aC.length - xw fn.mu fn.args)).map cW.er,[]):=(by unfold aF.MV;rw[aF.CL,c];simp only[AT];rw[<-Bg,Kj,b];rfl);simp only[EY,aiN hd,aF.ac2 g,a,wv hx,i,ZH e,Kl];cases h;cases h;cases h;cases h;cases h
def ZN (T:List aF) (d:Option Nat) (f:FuncId) (as:List SV) (σ:ak) (k:ak->Option ρ):Option ρ:=
 match aF.q9 3 T f with
 |some fn=>match fn.mu.jH with
  |3=>match Gx as with
   |some gh=>match Eb fn.mu.tl gh with
    |[n]=>Kf σ.h (Of σ.h [n]) fn.mu.tl gh fun ds its=>match its with
     |[(.row n',_)]=>dq n' n (match σ.h n with
      |some (.row _ _ ts xs)=>match rz fn.args ds with
       |some x=>(fn.F x).ae fun y=>match nc fn.aC y with
        |[(.one,[⟨.int _,a⟩]),(.one,[⟨.int _,b⟩])]=>(jP a b (aa xs)).ae fun p=>k (σ.put d (.one (.sl n ts.length p.1 p.2)))
        |_=>none
       |none=>none
      |_=>none)
     |_=>none
    |_=>none
   |none=>none
  |_=>none
 |none=>none
theorem av3 {T:List aF} {d:Option Nat} {f:FuncId} {as:List SV} {σ:ak} {k:ak->Option ρ} {r:ρ} (h:ZN T d f as σ k=some r): ∃v:SV,vE (dG T) f (as.map SV.er) σ.er.h=some v.er/\k (σ.put d v)=some r:=by unfold ZN at h;split at h;rename_i fn u;split at h;rename_i Iz;split at h;rename_i gh q;split at h;rename_i n hn;obtain⟨ds,its,i,c⟩:=Sn h;split at c;rename_i s md;have m:=(bn c).1;replace c:=(bn c).2;subst m;split at c;rename_i l j ts xs w;split at c;rename_i x hx;rw[fC] at c;obtain⟨y,t,c⟩:=c;split at c;rename_i ka a kb b hy;rw[fC] at c;obtain⟨p,e,c⟩:=c;refine⟨_,?_,c⟩;unfold jP at e;split at e;rename_i eo;injection e with e;subst e;have o:fn.MW (eG fn.args x)=some (Int.toNat a,Int.toNat (@HSub.hSub Int Int Int instHSub b a)):=(by unfold aF.MW;rw[aF.CL,t];simp only[AT,zai];rw[<-Bg,hy];rfl);have hh:σ.er.h=eM σ.h:=rfl;have g:σ.er.h s=some (.row l j ts.length (co (Ty.aQ ts) xs)):=(by simp[ak.er,eM,w,SB.er]);rw[ZV] at i;simp only[vE,aF.ac3 u,Sl q,Sm,hn,hh,i,wv hx,o];rw[hh] at g;simp only[g,if_true];rfl;cases e;cases c;cases c;cases c;cases c;cases h;cases h;cases h;cases h
inductive fh where
 |mv (x:eQ)
 |pick (c x y:eQ)
 |alloc (zs:List SC)
 |box (sz:Nat) (x:eQ)
 |build (zs:List SC) (parts:List (Nat×Nat×eQ))
 |iu (ts:List Ty) (parts:List eQ)
 |load (ag:Bool) (sz:Nat) (x:eQ)
 |store (sz:Nat) (x v:eQ)
 |lZ (x:eQ)
 |bin (op:BinOp) (x y:eQ)
 |ue (op:BinOp) (x y:eQ)
 |un (op:UnOp) (x:eQ)
 |conv (k:IntKind) (x:eQ)
 |jW (m:Mode) (ts:List Ty) (ew:Nat) (z:Ty.DL ts) (l c:eQ)
 |slice (sz:Nat) (x:eQ) (lo hi:Option eQ)
 |q8 (off:Nat) (x:eQ)
 |rm (sz:Nat) (x i:eQ)
 |ext (i:Nat) (x:eQ)
 |len (x:eQ)
 |append (fl:Bool) (ts:List Ty) (ew:Nat) (x y:eQ)
 |mm (mx:Bool) (x y:eQ)
 |call (m:Mode) (f:FuncId) (xs:List eQ)
 |copy (x y:eQ)
 |wR (t:Ty) (z:t.D) (x:eQ)
 |qp (m:Mode) (f:FuncId) (xs:List eQ)
 |qV (f:FuncId) (xs:List eQ)
 |pS (f:FuncId) (xs:List eQ)
 |oI (f:FuncId) (xs:List eQ)
 |uf (m:Mode) (f:FuncId) (xs:List eQ)
def atj:Ty->Bool
 |.list _=>false
 |_=>true
def JD:List Ty->Bool
 |[]=>true
 |t::ts=>atj t&&JD ts
theorem agP:∀{ts:List Ty} (e:Ty.DL ts),JD ts=true->∀x∈Ty.aQ ts e,x.gI=true
 |[],e,_,x,hx=>by cases hx
 |[t],e,h,x,hx=>by simp only[JD,zaM] at h;simp only[Ty.aQ,zaF] at hx;subst hx;cases t with|list ts=>cases h|_=>rfl
 |t::u::ts,e,h,x,hx=>by rw[JD,BY] at h;simp only[Ty.aQ,zaa] at hx;rcases hx with rfl|hx;(cases t with|list ts=>cases h.1|_=>rfl);exact agP (ts:=u::ts) e.2 h.2 x hx
def fh.er:fh->dB
 |.mv x=>.mv x.er
 |.pick c x y=>.pick c.er x.er y.er
 |.alloc zs=>.alloc (zs.map SC.er)
 |.box sz x=>.box sz x.er
 |.build zs ps=>.build (zs.map SC.er) (ps.map fun p=>(p.1,p.2.1,p.2.2.er))
 |.iu ts ps=>cond (JD ts) (.AZ ts.length (ps.map eQ.er)) (.iu ts.length (ps.map eQ.er))
 |.load ag sz x=>.load ag sz x.er
 |.store sz x v=>.store sz x.er v.er
 |.lZ x=>.lZ x.er
 |.bin op x y=>.bin op x.er y.er
 |.ue op x y=>.ue op x.er y.er
 |.un op x=>.un op x.er
 |.conv k x=>.conv k x.er
 |.jW m ts ew z l c=>.jW m ts.length ew (Ty.aQ ts z) l.er c.er
 |.slice sz x lo hi=>.slice sz x.er (lo.map eQ.er) (hi.map eQ.er)
 |.q8 off x=>.q8 off x.er
 |.rm sz x i=>.rm sz x.er i.er
 |.ext i x=>.ext i x.er
 |.len x=>.len x.er
 |.append fl ts ew x y=>.append fl ts.length ew x.er y.er
 |.mm b x y=>.mm b x.er y.er
 |.call m f xs=>.call m f (xs.map eQ.er)
 |.copy x y=>.copy 1 x.er y.er
 |.wR t z x=>.wR (t.er z) x.er
 |.qp m f xs=>.qp m f (xs.map eQ.er)
 |.qV f xs=>.qV f (xs.map eQ.er)
 |.pS f xs=>.pS f (xs.map eQ.er)
 |.oI f xs=>.oI f (xs.map eQ.er)
 |.uf m f xs=>.uf m f (xs.map eQ.er)
theorem C7 (σ:ak) (xs:List eQ):(xs.map eQ.er).map σ.er.ev=(xs.map σ.ev).map SV.er:=by simp[ak.fS]
def Ov (ev:eQ->SV):List SC->List (Nat×Nat×eQ)->Option (List SC)
 |zs,[]=>some zs
 |zs,(off,sz,x)::ps=>match(ev x).cells? with
  |some (_,cs)=>dq cs.length sz (fH (zau (off+sz) zs.length) (Ov ev (eP zs off cs) ps))
  |none=>none
theorem aiZ {σ:ak}:∀{ps:List (Nat×Nat×eQ)} {a cs:List SC},Ov σ.ev a ps=some cs-> wD σ.er.ev (a.map SC.er) (ps.map fun p=>(p.1,p.2.1,p.2.2.er))=some (cs.map SC.er)
 |[],a,cs,h=>by simp only[Ov] at h;injection h with h;subst h;rfl
 |(off,sz,x)::ps,a,cs,h=>by simp only[Ov] at h;split at h;rename_i b cs1 e;have g:=(bn h).1;replace h:=(bn h).2;subst g;have d:=(cR h).1;replace h:=(cR h).2;have c:=aiZ h;rw[Ki] at c;have f:=zaz d;simp only[By,wD,ak.fS,SV.pq e,AI,f,and_self,if_true,c];cases h
def RR (l:List TD):Bool:=l.all fun x=>x.1.gI
theorem avV (l:List TD):io (eK l)=RR l:=by simp[io,eK,RR,List.all_map,Function.comp_def,Ty.Ck]
def aaj (σ:ak) (n:Nat) (gr:Bool) (m:Mode) (ts:List Ty) (xs:List (Ty.DL ts)) (kk off:Nat) (e:Ty.DL ts) (vs:List SC) (k:ak->Option ρ):Option ρ:=
 match sub (Ty.jF ts e) off vs.length with
 |none=>none
 |some mB=>Kp σ vs fun cs o σ1=>match uQ ts (eP (Ty.jF ts e) off cs) with
  |none=>none
  |some e'=>match m with
   |.live=>fH (RR cs&&RR mB&&(σ1.h n).isSome&& !gr) (k (σ1.fQ n (.row gr .live ts (br xs kk e'))))
   |.bi=>fH (σ1.h n).isSome (k (σ1.fQ n (.row gr (match o with|true=>.bi|false=>.bh) ts (br xs kk e'))))
   |.bh=>fH (σ1.h n).isSome (k (σ1.fQ n (.row gr .bh ts (br xs kk e'))))
theorem acy (h:Nat->Option SB) (n:Nat):(eM h n).isSome=(h n).isSome:=by simp_all [eM]
theorem awy {σ:ak} {n:Nat} {p:Bool} {m:Mode} {ts:List Ty} {xs:List (Ty.DL ts)} {d off:Nat} {e:Ty.DL ts} {vs:List SC} {k:ak->Option ρ} {r:ρ} (h:aaj σ n p m ts xs d off e vs k=some r): ∃σ1:ak,u9 σ.er n p m ts.length (co (Ty.aQ ts) xs) d off (Ty.aQ ts e) (vs.map SC.er)=some σ1.er/\k σ1=some r:=by unfold aaj at h;split at h;cases h;rename_i t q;obtain⟨cs,o,σ1,l,a⟩:=SG h;have b:sub (Ty.aQ ts e) off (vs.map SC.er).length=some (eK t):=(by rw[<-Ty.rK];simp only[eK];rw[y8,AI,q];rfl);split at a;cases a;rename_i f s;have i:eP (Ty.aQ ts e) off (eK cs)=Ty.aQ ts f:=(by rw[Aq s,<-Ty.rK];simp only[eK];rw[<-Ki]);have j:(co (Ty.aQ ts) xs).set d (Ty.aQ ts f)=co (Ty.aQ ts) (br xs d f):=(by show _=co (Ty.aQ ts) (xs.set d f);rw[zam]);have g:σ1.er.h n=(σ1.h n).map SB.er:=rfl;split at a;have c:=(cR a).1;replace a:=(cR a).2;simp only[BY,zax] at c;refine⟨_,?_,a⟩;simp only[u9,b,l,if_true,avV,c.1.1.1,c.1.1.2,g,zaK,c.1.2,c.2,and_self,i,j,ak.sK,SB.er];have c:=(cR a).1;replace a:=(cR a).2;refine⟨_,?_,a⟩;cases o<;>simp only[u9,b,l,g,zaK,c,i,j,ak.sK,SB.er,reduceCtorEq,if_false,if_true,Pe,cond_true,cond_false,ite_self];have c:=(cR a).1;replace a:=(cR a).2;refine⟨_,?_,a⟩;cases o<;>simp only[u9,b,l,g,zaK,c,i,j,ak.sK,SB.er,reduceCtorEq,if_false,if_true,Pe,cond_true,cond_false,ite_self]
def CW (us ts:List Ty) (xs:List (Ty.DL us)):Option (List (Ty.DL ts)):=if h:Ty.x6 us ts=true then some (Ty.CT h▸xs) else none
theorem U5 {us ts:List Ty} {xs:List (Ty.DL us)} {ys:List (Ty.DL ts)} (h:CW us ts xs=some ys):us.length=ts.length/\co (Ty.aQ us) xs=co (Ty.aQ ts) ys/\xs.length=ys.length:=by grind [CW]
def ZA (σ:ak) (ts:List Ty) (v:SV) (k:List (Ty.DL ts)->Mode->ak->Option ρ):Option ρ:=
 match v with
 |.one (.nil _)=>k [] .bi σ
 |.one (.sl a s lo len)=>match σ.h a with
  |some (.row true m us xs)=>dq s ts.length (dq lo 0 (match CW us ts xs with
   |some ys=>(aU lo len (aa ys)).ae fun _=>k ys m (σ.del a)
   |none=>none))
  |_=>none
 |_=>none
theorem Wh {lo len l:Nat} {u:Unit} (h:aU lo len l=some u):lo=0/\len=l:=by simp_all [aU]
theorem auy {σ:ak} {ts:List Ty} {v:SV} {k:List (Ty.DL ts)->Mode->ak->Option ρ} {r:ρ} (h:ZA σ ts v k=some r): ∃(xs:List (Ty.DL ts)) (m:Mode) (σ1:ak),AX σ.er ts.length v.er=some (co (Ty.aQ ts) xs,m,σ1.er)/\k xs m σ1=some r:=by unfold ZA at h;split at h;exact⟨[],.bi,σ,rfl,h⟩;rename_i a s lo len;split at h;rename_i m us xs hn;have c:=(bn h).1;replace h:=(bn h).2;subst c;have c:=(bn h).1;replace h:=(bn h).2;subst c;split at h;rename_i ys e;obtain⟨d,f,c3⟩:=U5 e;rw[fC] at h;obtain⟨_,g,h⟩:=h;obtain⟨_,b⟩:=Wh g;replace b:len=ys.length:=b;refine⟨ys,m,σ.del a,?_,h⟩;have cV:σ.er.h a=some (.row true m ts.length (co (Ty.aQ ts) ys)):=(by simp[ak.er,eM,hn,SB.er,d,f]);simp_all [SV.er,SC.er,AX,AI,and_self,if_true,ak.HT];cases h;cases h;cases h
theorem ahJ (ts:List Ty) (xs:List (Ty.DL ts)) (h:Ty.io ts=true):gU (co (Ty.aQ ts) xs)=true:=by simp_all [gU,zaA,zab,Ty.JZ]
def ZB (fl:Bool) (σ:ak) (ts:List Ty) (m:Mode) (v:SV) (k:List (Ty.DL ts)->Mode->ak->Option ρ):Option ρ:=
 match v with
 |.one (.nil _)=>k [] m σ
 |.one (.v (.list us) ys)=>match CW us ts ys with
  |some zs=>match fl with
   |true=>fH (Ty.io ts) (k zs m σ)
   |false=>match m with
    |.live=>none
    |_=>k zs .bh σ
  |none=>none
 |.one (.sl b s lo len)=>match σ.h b with
  |some (.row gr m' us ys)=>dq s ts.length (match CW us ts ys with
   |some zs=>match fl with
    |true=>fH (Ty.io ts) ((cr zs lo len).ae fun ws=>k ws m σ)
    |false=>(aU lo len (aa zs)).ae fun _=>match m,m' with
     |.bi,.bi=>k zs .bi (σ.del b)
     |.live,.live=>fH gr (k zs .live (σ.del b))
     |.bh,.bh=>k zs .bh (σ.del b)
     |.bi,.bh=>k zs .bh (σ.del b)
     |.bh,.bi=>k zs .bh (σ.del b)
     |_,_=>none
   |none=>none)
  |_=>none
 |_=>none
theorem auz {fl:Bool} {σ:ak} {ts:List Ty} {m:Mode} {v:SV} {k:List (Ty.DL ts)->Mode->ak->Option ρ} {r:ρ} (h:ZB fl σ ts m v k=some r):
  ∃(ys:List (Ty.DL ts)) (m2:Mode) (σ1:ak),ud fl σ.er ts.length m v.er=some (co (Ty.aQ ts) ys,m2,σ1.er)/\k ys m2 σ1=some r:=by
 unfold ZB at h;split at h
 ·exact⟨[],m,σ,rfl,h⟩
 ·rename_i us ys;split at h
  ·rename_i a f;obtain⟨d,e,u⟩:=U5 f;have t:Ty.er (.list us) ys=.list ts.length (co (Ty.aQ ts) a):=by rw[<-d,<-e];rfl
   split at h
   ·have g:=(cR h).1;replace h:=(cR h).2;refine⟨a,m,σ,?_,h⟩;simp only[SV.er,SC.er,t,ud,if_true,za2,ahJ ts a g]
   ·split at h
    ·cases h
    ·rename_i hm;refine⟨a,.bh,σ,?_,h⟩
     simp_all [SV.er,SC.er,ud,if_true,Bool.false_and,Pe,if_false]
  ·cases h
 ·rename_i b s lo len;split at h
  ·rename_i l j us ys hn;have o:=(bn h).1;replace h:=(bn h).2;subst o;split at h
   ·rename_i a f;obtain⟨d,e,u⟩:=U5 f;have i:σ.er.h b=some (.row l j ts.length (co (Ty.aQ ts) a)):=by simp[ak.er,eM,hn,SB.er,d,e]
    split at h
    ·have g:=(cR h).1;replace h:=(cR h).2;rw[fC] at h;obtain⟨ws,p,h⟩:=h;obtain⟨n,q⟩:=ajG p;refine⟨ws,m,σ,?_,h⟩;simp only[SV.er,SC.er,ud,i,AI,n,q,and_self,if_true,za2,ahJ ts ws g]
    ·rw[fC] at h;obtain⟨_,w,h⟩:=h;obtain⟨rfl,c⟩:=Wh w
     replace c:len=a.length:=c
     subst c;have pA:zaI a.length (co (Ty.aQ ts) a)=co (Ty.aQ ts) a:=by
      rw[List.take_of_length_le];simp
     cases m<;>cases j<;>first
      |(cases h;done)
      |exact⟨a,_,σ.del b,by simp[SV.er,SC.er,ud,i,ak.HT],h⟩
      |exact⟨a,_,σ.del b,by have hg:=(cR h).1;simp_all [SV.er,SC.er,ud,ak.HT],(cR h).2⟩
   ·cases h
  ·cases h
 ·cases h
end
end
theorem aqg {α β:Type} (f:α->β) {l:List α} {i:Nat} {e:α} (h:l[i]? =some e):(l.map f)[i]? =some (f e):=by simp_all
section
variable {ρ:Type}
def NR:Bool->Mode
 |true=>.bi
 |false=>.bh
theorem asq (o:Bool):(if o=true then Mode.bi else .bh)=NR o:=by cases o<;>rfl
def Q4 (σ:ak) (d:Int) (o:Option eQ):Option Int:=
 match o with
 |none=>some d
 |some q=>(σ.ev q).fW
theorem Q5 {σ:ak} {d l:Int} {o:Option eQ} (h:Q4 σ d o=some l):(match o.map eQ.er with|none=>some d|some q=>(σ.er.ev q).fW)=some l:=by cases o with|none=>exact h|some q=>simp only[AT,ak.fS];exact SV.FI h
def Gu:List SC->Option (List TD)
 |[]=>some []
 |.v t x::l=>match t.gI with
  |true=>match Gu l with
   |some ds=>some (⟨t,x⟩::ds)
   |none=>none
  |false=>none
 |_::_=>none
theorem ahO:∀{vs:List SC} {ds:List TD},Gu vs=some ds->qt (vs.map SC.er)=some (eK ds)
 |[],ds,h=>by simp only[Gu] at h;injection h with h;subst h;rfl
 |c::vs,ds,h=>by cases c with|v t x=>simp only[Gu] at h;split at h;rename_i a;split at h;rename_i l hl;injection h with h;subst h;simp only[By,SC.er,qt,Ty.Ck,a,if_true,ahO hl,eK,AT];cases h;cases h|_=>simp[Gu] at h
def aai (us:List Ty) (e:Ty.DL us) (off s i:Nat) (vs:List SC) (k:Ty.DL us->Option ρ):Option ρ:=
 match(Ty.jF us e)[off]? with
 |some ⟨.list ts,ys⟩=>dq ts.length s (dq vs.length s (fH (Ty.io ts) ((bL (α:=Ty.DL ts) ys i).ae fun _=>match Gu vs with
  |some ds=>match uQ ts ds with
   |some el=>match Od us e off ⟨.list ts,br (α:=Ty.DL ts) ys i el⟩ with
    |some e'=>k e'
    |none=>none
   |none=>none
  |none=>none)))
 |_=>none
theorem av9 {us ts:List Ty} {xs:List (Ty.DL us)} {b off i:Nat} {e c:Ty.DL us} {vs:List SC} {ds:List TD} {d o:Ty.DL ts} (ys:List (Ty.DL ts)) (f:xs[b]? =some e) (hd:(Ty.jF us e)[off]? =some ⟨.list ts,ys⟩) (j:vs.length=ts.length) (n:Ty.io ts=true) (hy:ys[i]? =some o) (h:Gu vs=some ds) (k:uQ ts ds=some d) (g:Od us e off ⟨.list ts,br ys i d⟩=some c): Gv (co (Ty.aQ us) xs) b off ts.length i (vs.map SC.er)=some (co (Ty.aQ us) (br xs b c)):=by have l:(Ty.aQ us e)[off]? =some (.list ts.length (co (Ty.aQ ts) ys)):=Pj hd;have hx:(co (Ty.aQ us) xs)[b]? =some (Ty.aQ us e):=(by rw[GB,f];rfl);have m:i<(co (Ty.aQ ts) ys).length:=(by rw[AI];exact(If.1 hy).1);have a:Ty.aQ us c=(Ty.aQ us e).set off (.list ts.length (co (Ty.aQ ts) (br ys i d))):=ZS g;unfold Gv;rw[hx,zai,l];simp only;rw[ai ⟨trivial,by simpa using j,m,yY ts ys n⟩,ahO h,zao,hx];simp only[AT,Option.getD_some];unfold br at a⊢;rw[zam,a,zam,Aq k]
theorem awx {us:List Ty} {xs:List (Ty.DL us)} {b:Nat} {e:Ty.DL us} {off s i:Nat} {vs:List SC} {k:Ty.DL us->Option ρ} {r:ρ} (f:xs[b]? =some e) (h:aai us e off s i vs k=some r): ∃a,Gv (co (Ty.aQ us) xs) b off s i (vs.map SC.er)=some (co (Ty.aQ us) (br xs b a))/\k a=some r:=by unfold aai at h;split at h;rename_i ts ys hd;have c:=(bn h).1;replace h:=(bn h).2;have d:=(bn h).1;replace h:=(bn h).2;have m:=(cR h).1;replace h:=(cR h).2;rw[fC] at h;obtain⟨y0,hy,h⟩:=h;split at h;rename_i ds j;split at h;rename_i el l;split at h;rename_i a g;subst c;exact⟨a,av9 ys f hd d m hy j l g,h⟩;cases h;cases h;cases h;cases h
def jl (T:List aF) (d:Option Nat) (op:fh) (σ:ak) (k:ak->Option ρ):Option ρ:=
 match op with
 |.mv x=>k (σ.put d (σ.ev x))
 |.pick c x y=>match σ.ev c with
  |.one (.v .bool b)=>match σ.ev x,σ.ev y with
   |.one (.v t x'),.one (.v u y')=>match Ty.cast u t y' with
    |some z=>k (σ.put d (.one (.v t (aA b x' z))))
    |none=>aA b (k (σ.put d (σ.ev x))) (k (σ.put d (σ.ev y)))
   |_,_=>aA b (k (σ.put d (σ.ev x))) (k (σ.put d (σ.ev y)))
  |_=>none
 |.alloc zs=>match d with
  |some n=>match σ.ins n (.box zs) with
   |some σ1=>k (σ1.put d (.one (.ptr n 0 0 0)))
   |none=>none
  |none=>none
 |.box sz x=>match d,(σ.ev x).cells? with
  |some n,some (_,cs)=>dq cs.length sz (match σ.ins n (.box cs) with
   |some σ1=>k (σ1.put d (.one (.ptr n 0 0 0)))
   |none=>none)
  |_,_=>none
 |.build zs parts=>match Ov σ.ev zs parts with
  |some cs=>k (σ.put d (.agg cs))
  |none=>none
 |.iu ts parts=>match d with
  |some n=>SF ts σ (parts.map σ.ev) fun es o σ1=>match σ1.ins n (.row true (NR o) ts es) with
   |some σ2=>k (σ2.put d (.one (.sl n ts.length 0 es.length)))
   |none=>none
  |none=>none
 |.load ag sz x=>match σ.ev x with
  |.one p=>Sk σ.h p sz fun cs=>k (σ.put d (Kw ag cs))
  |_=>none
 |.store sz x v=>match σ.ev x,(σ.ev v).cells? with
  |.one (.ptr n kk aZ off),some (_,vs)=>dq vs.length sz (match σ.h n with
   |some (.box cs)=>dq kk 0 (fH (zau (off+sz) cs.length) (k (σ.fQ n (.box (eP cs off vs)))))
   |some (.row gr m ts xs)=>dq aZ ts.length ((bL xs kk).ae fun e=>aaj σ n gr m ts xs kk off e vs k)
   |some (.kt ts x)=>dq kk 0 (match vs with
    |[.v (.int .i64) w]=>(ZQ ts x off w).ae fun y=>k (σ.fQ n (.kt ts y))
    |_=>none)
   |none=>none)
  |.one (.eE n kk aZ off s i),some (_,vs)=>dq vs.length sz (match σ.h n with
   |some (.row false .live us xs)=>dq aZ us.length ((bL xs kk).ae fun e=>aai us e off s i vs fun e'=>k (σ.fQ n (.row false .live us (br xs kk e'))))
   |_=>none)
  |_,_=>none
 |.lZ x=>match σ.ev x with
  |.one (.ptr n kk sz off)=>fH (σ.h n).isSome (k (σ.put d (.one (.ptr n kk sz off))))
  |.one (.ez ts x off)=>k (σ.put d (.one (.ez ts x off)))
  |.one (.dE ts x off j n s len)=>k (σ.put d (.one (.dE ts x off j n s len)))
  |_=>none
 |.bin op x y=>UY op (σ.ev x) (σ.ev y) fun t z=>k (σ.put d (.one (.v t z)))
 |.ue op x y=>UX op (σ.ev x) (σ.ev y) fun t z=>k (σ.put d (.one (.v t z)))
 |.un op x=>unS op (σ.ev x) fun t z=>k (σ.put d (.one (.v t z)))
 |.conv kd x=>match σ.ev x with
  |.one (.v (.int _) n)=>k (σ.put d (.one (.v (.int kd) (Vl kd n))))
  |_=>none
 |.jW m ts ew z l c=>match d,(σ.ev l).fW,(σ.ev c).fW with
  |some n,some a,some b=>(j6 a b ew).ae fun len=>match σ.ins n (.row true m ts (cJ len z)) with
   |some σ1=>k (σ1.put d (.one (.sl n ts.length 0 len)))
   |none=>none
  |_,_,_=>none
 |.slice sz x lo hi=>
  match σ.ev x,Q4 σ 0 lo with
  |.one (.sl n s l0 len),some l=>
   match Q4 σ (aK len) hi with
   |some h=>dq s sz (fH (σ.h n).isSome ((jP l h len).ae fun p=>k (σ.put d (.one (.sl n s (au l0 p.1) p.2)))))
   |none=>none
  |.one (.v (.list ts) xs),some l=>
   match Q4 σ (aK (aa (α:=Ty.DL ts) xs)) hi with
   |some h=>dq ts.length sz ((jP l h (aa (α:=Ty.DL ts) xs)).ae fun p=>k (σ.put d (.one (.v (.list ts) (fE (α:=Ty.DL ts) xs p.1 p.2)))))
   |none=>none
  |_,_=>none
 |.q8 off x=>match σ.ev x with
  |.one (.ptr n kk sz o)=>fH (σ.h n).isSome (k (σ.put d (.one (.ptr n kk sz (o+off)))))
  |.one (.ez ts x o)=>k (σ.put d (.one (.ez ts x (o+off))))
  |.one (.dE ts x o j n s len)=>k (σ.put d (.one (.dE ts x (o+off) j n s len)))
  |_=>none
 |.rm sz x i=>match σ.ev x,(σ.ev i).fW with
  |.one (.sl n s lo len),some j=>dq s sz (fH (σ.h n).isSome ((dg j len).ae fun q=>k (σ.put d (.one (.ptr n (au lo q) s 0)))))
  |.one (.v (.list ts) xs),some j=>dq ts.length sz ((cg (α:=Ty.DL ts) xs j).ae fun e=>k (σ.put d (.one (.ez ts e 0))))
  |.one (.cF n kk aZ off s len),some j=>Cs σ.h (.cF n kk aZ off s len) fun t x=>match t,x with
   |.list ts,ys=>dq ts.length sz ((dg j (aa (α:=Ty.DL ts) ys)).ae fun q=>k (σ.put d (.one (.eE n kk aZ off sz q))))
   |_,_=>none
  |_,_=>none
 |.ext i x=>match σ.ev x with
  |.cT xs=>match xs[i]? with
   |some (ag,cs)=>k (σ.put d (Kw ag cs))
   |none=>none
  |.pN ts y xs=>match i with
   |0=>k (σ.put d (.arr ts y))
   |j+1=>match xs[j]? with
    |some (ag,cs)=>k (σ.put d (Kw ag cs))
    |none=>none
  |_=>none
 |.len x=>match σ.ev x with
  |.one (.sl n sz lo len)=>fH (σ.h n).isSome (k (σ.put d (.one (.v (.int .i64) (aK len)))))
  |.one (.v (.list ts) xs)=>k (σ.put d (.one (.v (.int .i64) (aK (aa (α:=Ty.DL ts) xs)))))
  |.one (.nil ts)=>k (σ.put d (.one (.v (.int .i64) (0:Int))))
  |.one (.cF n kk aZ off sz len)=>Cs σ.h (.cF n kk aZ off sz len) fun t x=>match t,x with
   |.list ts,ys=>k (σ.put d (.one (.v (.int .i64) (aK (aa (α:=Ty.DL ts) ys)))))
   |_,_=>none
  |_=>none
 |.append fl ts ew x y=>match d with
  |none=>none
  |some n=>ZA σ ts (σ.ev x) fun xs m σ1=>ZB fl σ1 ts m (σ.ev y) fun ys m2 σ2=>
   (jT (au (aa xs) (aa ys)) ew).ae fun _=>match σ2.ins n (.row true m2 ts (ci xs ys)) with
    |some jX=>k (jX.put d (.one (.sl n ts.length 0 (au (aa xs) (aa ys)))))
    |none=>none
 |.mm mx x y=>match σ.ev x,σ.ev y with
  |.one (.v (.int kd) a),.one (.v (.int kd') b)=>match mx with
   |true=>k (σ.put d (.one (.v (.int kd) (sf a b))))
   |false=>k (σ.put d (.one (.v (.int kd) (jM a b))))
  |_,_=>none
 |.call m f xs=>ZI T m d f (xs.map σ.ev) σ k
 |.copy x y=>match σ.ev x,σ.ev y with
  |.one (.sl n s lo len),.one c=>match σ.h n with
   |some (.row gr m ts xs)=>dq s 1 (dq ts.length 1 (fH (m.own&&Ty.io ts) (Cs σ.h c fun u ys=>match u,ys with
    |.list us,ys=>match Ty.cast (.list us) (.list ts) ys with
     |some zs=>(vC (α:=Ty.DL ts) xs lo len (zaI (α:=Ty.DL ts) len zs)).ae fun aM=>k ((σ.fQ n (.row gr m ts aM)).put d (.one (.v (.int .i64) (aK (Nat.min (aa (α:=Ty.DL ts) zs) len)))))
     |none=>none
    |_,_=>none)))
   |_=>none
  |_,_=>none
 |.wR t z x=>match σ.ev x with
  |.one (.sl n s lo len)=>match σ.h n with
   |some (.row gr m ts xs)=>dq s 1 (fH (m.own&&t.gI) (match uQ ts [⟨t,z⟩] with
    |some e=>(vC (α:=Ty.DL ts) xs lo len (cJ len e)).ae fun aM=>k ((σ.fQ n (.row gr m ts aM)).put d (.cT []))
    |none=>none))
   |_=>none
  |_=>none
 |.qp m f xs=>ZK T m d f (xs.map σ.ev) σ k
 |.qV f xs=>ZJ T d f (xs.map σ.ev) σ k
 |.pS f xs=>ZN T d f (xs.map σ.ev) σ k
 |.oI f xs=>ZM T d f (xs.map σ.ev) σ k
 |.uf m f xs=>ZO T m d f (xs.map σ.ev) σ k
theorem EZ {σ:ak} {n:Nat} {b:SB} (h:σ.h n=some b):σ.er.h n=some b.er:=by simp[ak.er,eM,h]
theorem LP {σ:ak} {n:Nat} (h:(σ.h n).isSome=true):(σ.er.h n).isSome=true:=by simp only[ak.er,acy,h]
theorem aaL (t:Ty) (x:t.D):(SV.one (.v t x)).er=.one (.c (t.er x)):=rfl
theorem aca {ts:List Ty} {xs a ys:List (Ty.DL ts)} {lo len:Nat} (h:vC xs lo len ys=some a):lo+len<=xs.length/\co (Ty.aQ ts) a=eP (co (Ty.aQ ts) xs) lo (co (Ty.aQ ts) ys):=by unfold vC at h;split at h;rename_i b;injection h with h;subst h;exact⟨b,Ki (Ty.aQ ts) xs ys lo⟩;cases h
theorem Ty.akS {t u:Ty} {x:t.D} {y:u.D} (h:Ty.cast t u x=some y):t.er x=u.er y:=by grind [Ty.cast]
theorem ahW {T:List aF} {d:Option Nat} {op:fh} {σ:ak} {k:ak->Option ρ} {r:ρ} (h:jl T d op σ k=some r):
  ∃σ1:ak,exec (dG T) d op.er σ.er=some σ1.er/\k σ1=some r:=by
 cases op with
 |mv x=>exact⟨_,by simp only[fh.er,exec,ak.fJ,ak.fS],h⟩
 |pick c x y=>
  simp only[jl] at h;split at h
  ·rename_i b K;have S:σ.er.ev c.er=.one (.c (.bool b)):=by rw[ak.fS,K];rfl
   have eW:∀σ1:ak,σ1.er=σ.er.put d (cond b (σ.ev x).er (σ.ev y).er)->exec (dG T) d (fh.er (.pick c x y)) σ.er=some σ1.er:=by
    intro σ1 e;simp only[fh.er,exec,S,ak.fS,e];cases b<;>rfl
   have gen:aA b (k (σ.put d (σ.ev x))) (k (σ.put d (σ.ev y)))=some r->∃σ1:ak,exec (dG T) d (fh.er (.pick c x y)) σ.er=some σ1.er/\k σ1=some r:=by
    intro h;cases C:(b:Bool) with
    |true=>rw[C] at h;exact⟨_,eW _ (by rw[ak.fJ,C];rfl),h⟩
    |false=>rw[C] at h;exact⟨_,eW _ (by rw[ak.fJ,C];rfl),h⟩
   split at h
   ·rename_i t x' u y' ex ey;split at h
    ·rename_i z U;refine⟨_,eW _ ?_,h⟩;rw[ak.fJ,ex,ey,aaL,aaL,aaL,Ty.U6 U];cases (b:Bool)<;>rfl
    ·exact gen h
   ·exact gen h
  ·cases h
 |alloc M=>
  simp only[jl] at h;split at h
  ·rename_i n;split at h
   ·rename_i σ1 e;have:=ak.uk e;exact⟨_,by simp only[fh.er,exec];rw[show aV.box (M.map SC.er)=(SB.box M).er from rfl,this,ak.fJ];rfl,h⟩
   ·cases h
  ·cases h
 |box sz x=>
  simp only[jl] at h;split at h
  ·rename_i n b cs K;have E:=(bn h).1;replace h:=(bn h).2;subst E;split at h
   ·rename_i σ1 e;have:=ak.uk e;refine⟨_,?_,h⟩;simp only[fh.er,exec,ak.fS,SV.pq K,AI,if_true];rw[show aV.box (cs.map SC.er)=(SB.box cs).er from rfl,this,ak.fJ];rfl
   ·cases h
  ·cases h
 |build M parts=>
  simp only[jl] at h;split at h
  ·rename_i cs K;exact⟨_,by simp only[fh.er,exec,aiZ K,ak.fJ];rfl,h⟩
  ·cases h
 |iu ts parts=>
  simp only[jl] at h;split at h
  ·rename_i n;obtain⟨es,o,σ1,D,A⟩:=ai2 h;split at A
   ·rename_i σ2 e;have i:=ak.uk e;refine⟨_,?_,A⟩;have:(SB.row true (NR o) ts es).er=aV.row true (NR o) ts.length (co (Ty.aQ ts) es):=rfl;cases g:JD ts with
    |true=>
     obtain⟨p1,p2,p3⟩:=ajl D fun e G=>by
      obtain⟨y,_,rfl⟩:=zab.1 G;exact agP y g
     simp only[fh.er,g,cond_true,exec,C7,p1,ak.fJ];rw[p2] at this i;rw[<-p3,show Mode.bi=NR true from rfl,<-this,i,AI]
     rfl
    |false=>
     simp only[fh.er,g,cond_false,exec,C7,D,ak.fJ];rw[asq,<-this,i,AI];rfl
   ·cases A
  ·cases h
 |load ag sz x=>
  simp only[jl] at h;split at h
  ·rename_i p g;obtain⟨l,D,A⟩:=aix h;have B:σ.er.ev x.er=.one p.er:=by rw[ak.fS,g];rfl
   have X:loadAt σ.er.h p.er sz=some (l.map SC.er):=D;exact⟨_,by simp_all [fh.er,exec,ak.fJ,OB],A⟩
  ·cases h
 |store sz x v=>
  simp only[jl] at h;split at h
  ·rename_i n H N off b vs g K;have E:=(bn h).1;replace h:=(bn h).2;subst E;have B:σ.er.ev x.er=.one (.ptr n H N off):=by rw[ak.fS,g];rfl
   have S:(σ.er.ev v.er).cells?=some (b,vs.map SC.er):=by rw[ak.fS];exact SV.pq K
   split at h
   ·rename_i cs hn;have E:=(bn h).1;replace h:=(bn h).2;subst E;have C:=(cR h).1;replace h:=(cR h).2;have jU:=zaz C;refine⟨_,?_,h⟩;simp only[fh.er,exec,B,S,AI,if_true,EZ hn,SB.er,jU,and_self,ak.sK,<-Ki]
   ·rename_i gr m ts xs hn;have E:=(bn h).1;replace h:=(bn h).2;subst E;rw[fC] at h;obtain⟨e,G,h⟩:=h
    replace G:xs[H]? =some e:=G
    obtain⟨σ1,s1,s2⟩:=awy h;refine⟨σ1,?_,s2⟩;have kZ:(co (Ty.aQ ts) xs)[H]? =some (Ty.aQ ts e):=by rw[GB,G];rfl
    simp only[fh.er,exec,B,S,AI,if_true,EZ hn,SB.er,kZ,s1]
   ·rename_i ts y hn;have E:=(bn h).1;replace h:=(bn h).2;subst E;split at h
    ·rename_i w;rw[fC] at h;obtain⟨z,U,h⟩:=h;obtain⟨q1,q2⟩:=av7 U;have cI:off<((Ty.aQ ts y).map ao.c).length:=by rw[AI,Ty.Bp];exact q1
     have I:eP ((Ty.aQ ts y).map ao.c) off [ao.c (.int .i64 w)]=(Ty.aQ ts z).map .c:=by
      rw[q2,zam,List.set_eq_take_append_cons_drop,ai cI];simp[eP]
     have jU:off+[SC.v (.int .i64) w].length<=((Ty.aQ ts y).map ao.c).length:=cI;refine⟨_,?_,h⟩;simp only[fh.er,exec,B,S,AI,if_true,EZ hn,SB.er];rw[ak.sK];refine(ai ⟨trivial,?_⟩).trans (congrArg (fun l=>some (σ.er.fQ n (aV.box l))) I)
     simp_all
    ·cases h
   ·cases h
  ·rename_i n H N off s i b vs g K;have E:=(bn h).1;replace h:=(bn h).2;subst E;have B:σ.er.ev x.er=.one (.eE n H N off s i):=by rw[ak.fS,g];rfl
   have S:(σ.er.ev v.er).cells?=some (b,vs.map SC.er):=by rw[ak.fS];exact SV.pq K
   split at h
   ·rename_i gr us xs hn;have E:=(bn h).1;replace h:=(bn h).2;subst E;rw[fC] at h;obtain⟨e,G,h⟩:=h
    replace G:xs[H]? =some e:=G
    obtain⟨e',s1,s2⟩:=awx G h;refine⟨_,?_,s2⟩;simp only[fh.er,exec,B,S,AI,if_true,EZ hn,SB.er,s1,ak.sK]
   ·cases h
  ·cases h
 |lZ x=>
  simp only[jl] at h;split at h
  ·rename_i n H sz off g;have C:=(cR h).1;replace h:=(cR h).2;have B:σ.er.ev x.er=.one (.ptr n H sz off):=by rw[ak.fS,g];rfl
   exact⟨_,by simp only[fh.er,exec,B,LP C,if_true,ak.fJ];rfl,h⟩
  ·rename_i ts y off g;have B:σ.er.ev x.er=.one (.ez (Ty.aQ ts y) off):=by rw[ak.fS,g];rfl
   exact⟨_,by simp only[fh.er,exec,B,ak.fJ];rfl,h⟩
  ·rename_i ts y off j n s len g;have B:σ.er.ev x.er=.one (.dE (Ty.aQ ts y) off j n s len):=by rw[ak.fS,g];rfl
   exact⟨_,by simp only[fh.er,exec,B,ak.fJ];rfl,h⟩
  ·cases h
 |bin op x y=>
  simp only[jl] at h;obtain⟨t,z,D,A⟩:=akB h;exact⟨_,by simp only[fh.er,exec,ak.fS,D,ak.fJ];rfl,A⟩
 |ue op x y=>
  simp only[jl] at h;obtain⟨t,z,D,A⟩:=akz h;exact⟨_,by simp only[fh.er,exec,ak.fS,D,ak.fJ];rfl,A⟩
 |un op x=>
  simp only[jl] at h;obtain⟨t,z,D,A⟩:=awT h;exact⟨_,by simp only[fh.er,exec,ak.fS,D,ak.fJ];rfl,A⟩
 |conv V x=>
  simp only[jl] at h;split at h
  ·rename_i k' n g;have B:σ.er.ev x.er=.one (.c (.int k' n)):=by rw[ak.fS,g];rfl
   exact⟨_,by simp only[fh.er,exec,B,ak.fJ];rfl,h⟩
  ·cases h
 |jW m ts ew z l c=>
  simp only[jl] at h;split at h
  ·rename_i n a b ha C;rw[fC] at h;obtain⟨len,hm,h⟩:=h;unfold j6 at hm;split at hm
   ·rename_i F;injection hm with hm;subst hm;split at h
    ·rename_i σ1 e;have i:=ak.uk e;have yk:(σ.er.ev l.er).fW=some a:=by rw[ak.fS];exact SV.FI ha
     have bk:(σ.er.ev c.er).fW=some b:=by rw[ak.fS];exact SV.FI C
     refine⟨_,?_,h⟩;have U:(Ty.aQ ts z).length=ts.length:=Ty.Bp ts z;have f9:(SB.row true m ts (cJ a.toNat z)).er=aV.row true m ts.length (zaG a.toNat (Ty.aQ ts z)):=by simp[SB.er,cJ,zaX]
     have zN:a<=b/\0<=a/\b.toNat*ew<=fe/\(Ty.aQ ts z).length=ts.length:=⟨F.1,F.2.1,F.2.2,U⟩;simp only[fh.er,exec,yk,bk,ai zN,<-f9,i,ak.fJ];rfl
    ·cases h
   ·cases hm
  ·cases h
 |slice sz x lo L=>
  simp only[jl] at h;split at h
  ·rename_i n s l0 len l g el;have B:σ.er.ev x.er=.one (.sl n s l0 len):=by rw[ak.fS,g];rfl
   split at h
   ·rename_i hh eh;have E:=(bn h).1;replace h:=(bn h).2;subst E;have C:=(cR h).1;replace h:=(cR h).2;rw[fC] at h;obtain⟨p,I,h⟩:=h;unfold jP at I;split at I
    ·rename_i F;injection I with I;subst I;refine⟨_,?_,h⟩;have Z:s=s/\0<=l/\l<=hh/\hh<=len/\(σ.er.h n).isSome=true:=⟨rfl,F.1,F.2.1,F.2.2,LP C⟩;have P:=Q5 el;have Q:=Q5 eh;rw[ak.fJ];cases lo with
     |none=>
      simp only[IS,Pd] at P;subst P;cases L with
      |none=>
       simp only[IS,Pd] at Q;subst Q;simp only[fh.er,exec,B,IS];exact ai ⟨trivial,Z.2⟩
      |some q=>
       simp only[AT] at Q;simp only[fh.er,exec,B,IS,AT,Q];exact ai ⟨trivial,Z.2⟩
     |some q0=>
      simp only[AT] at P;cases L with
      |none=>
       simp only[IS,Pd] at Q;subst Q;simp only[fh.er,exec,B,IS,AT,P];exact ai ⟨trivial,Z.2⟩
      |some q=>
       simp only[AT] at Q;simp only[fh.er,exec,B,AT,P,Q];exact ai ⟨trivial,Z.2⟩
    ·cases I
   ·cases h
  ·rename_i ts xs l g el;have B:σ.er.ev x.er=.one (.c (.list ts.length (co (Ty.aQ ts) xs))):=by rw[ak.fS,g];rfl
   split at h
   ·rename_i hh eh;have E:=(bn h).1;replace h:=(bn h).2;subst E;rw[fC] at h;obtain⟨p,I,h⟩:=h;unfold jP at I;split at I
    ·rename_i F;injection I with I;subst I;refine⟨_,?_,h⟩;have Z:ts.length=ts.length/\0<=l/\l<=hh/\hh<=(co (Ty.aQ ts) xs).length:=⟨rfl,F.1,F.2.1,Int.le_trans F.2.2 (Int.le_of_eq (congrArg _ (AI (Ty.aQ ts)).symm))⟩;have P:=Q5 el;have Q:(match L.map eQ.er with|none=>some (((co (Ty.aQ ts) xs).length:Nat):Int)|some q=>(σ.er.ev q).fW)=some hh:=by rw[show(co (Ty.aQ ts) xs).length=zar (α:=Ty.DL ts) xs from AI (Ty.aQ ts)];exact Q5 eh
     rw[ak.fJ];have P8:co (Ty.aQ ts) (zaI (hh - l).toNat (za5 (α:=Ty.DL ts) l.toNat xs))=((co (Ty.aQ ts) xs).drop l.toNat).take (hh - l).toNat:=by
      rw[zan];exact congrArg (zaI (hh - l).toNat) zat
     refine Eq.trans ?_ (congrArg (fun q=>some (σ.er.put d (aw.one (.c (.list ts.length q))))) P8.symm);cases lo with
     |none=>
      simp only[IS,Pd] at P;subst P;cases L with
      |none=>
       simp_all [IS,Pd,fh.er,exec]
      |some q=>
       simp_all [AT,fh.er,exec,IS]
     |some q0=>
      simp only[AT] at P;cases L with
      |none=>
       simp_all [IS,Pd,fh.er,exec,AT]
      |some q=>
       simp_all [AT,fh.er,exec]
    ·cases I
   ·cases h
  ·cases h
 |q8 off x=>
  simp only[jl] at h;split at h
  ·rename_i n H sz o g;have C:=(cR h).1;replace h:=(cR h).2;have B:σ.er.ev x.er=.one (.ptr n H sz o):=by rw[ak.fS,g];rfl
   exact⟨_,by simp only[fh.er,exec,B,LP C,if_true,ak.fJ];rfl,h⟩
  ·rename_i ts y o g;have B:σ.er.ev x.er=.one (.ez (Ty.aQ ts y) o):=by rw[ak.fS,g];rfl
   exact⟨_,by simp only[fh.er,exec,B,ak.fJ];rfl,h⟩
  ·rename_i ts y o j n s len g;have B:σ.er.ev x.er=.one (.dE (Ty.aQ ts y) o j n s len):=by rw[ak.fS,g];rfl
   exact⟨_,by simp only[fh.er,exec,B,ak.fJ];rfl,h⟩
  ·cases h
 |rm sz x i=>
  simp only[jl] at h;split at h
  ·rename_i n s lo len j g L;have E:=(bn h).1;replace h:=(bn h).2;subst E;have C:=(cR h).1;replace h:=(cR h).2;rw[fC] at h;obtain⟨q,J,h⟩:=h;unfold dg at J;split at J
   ·rename_i F;injection J with J;subst J;have B:σ.er.ev x.er=.one (.sl n s lo len):=by rw[ak.fS,g];rfl
    have hi':(σ.er.ev i.er).fW=some j:=by rw[ak.fS];exact SV.FI L
    refine⟨_,?_,h⟩;have zN:s=s/\0<=j/\j<len/\(σ.er.h n).isSome=true:=⟨rfl,F.1,F.2,LP C⟩;simp only[fh.er,exec,B,hi',ak.fJ];exact ai ⟨trivial,zN.2⟩
   ·cases J
  ·rename_i ts xs j g L;have E:=(bn h).1;replace h:=(bn h).2;subst E;rw[fC] at h;obtain⟨e,G,h⟩:=h;unfold cg at G;split at G
   ·rename_i F;have B:σ.er.ev x.er=.one (.c (.list ts.length (co (Ty.aQ ts) xs))):=by rw[ak.fS,g];rfl
    have hi':(σ.er.ev i.er).fW=some j:=by rw[ak.fS];exact SV.FI L
    have kZ:(co (Ty.aQ ts) xs)[j.toNat]? =some (Ty.aQ ts e):=aqg (Ty.aQ ts) G;refine⟨_,?_,h⟩;simp only[fh.er,exec,B,hi',F,and_self,if_true,kZ,ak.fJ];rfl
   ·cases G
  ·rename_i n H N off s len j g L;obtain⟨t,y,D,A⟩:=GJ h;have B:σ.er.ev x.er=.one (.cF n H N off s len):=by rw[ak.fS,g];rfl
   have hi':(σ.er.ev i.er).fW=some j:=by rw[ak.fS];exact SV.FI L
   have X:dX σ.er.h (.cF n H N off s len)=some (t.er y):=D;split at A
   ·rename_i ts ys;have E:=(bn A).1;replace A:=(bn A).2;subst E;rw[fC] at A;obtain⟨q,J,A⟩:=A;unfold dg at J;split at J
    ·rename_i F;injection J with J;subst J;refine⟨_,?_,A⟩;simp only[fh.er,exec,B,hi',X,Ty.er,ak.fJ];exact ai ⟨trivial,F.1,by rw[show(co (Ty.aQ ts) ys).length=aa (α:=Ty.DL ts) ys from AI (Ty.aQ ts)];exact F.2⟩
    ·cases J
   ·cases A
  ·cases h
 |ext i x=>
  simp only[jl] at h;split at h
  ·rename_i xs g;split at h
   ·rename_i ag cs hg;have B:σ.er.ev x.er=.cT (xs.map fun x=>(x.1,x.2.map SC.er)):=by rw[ak.fS,g];rfl
    refine⟨_,?_,h⟩
    simp_all [fh.er,exec,GB,AT,ak.fJ,OB]
   ·cases h
  ·rename_i ts y xs g;have B:σ.er.ev x.er=.cT ((true,(Ty.aQ ts y).map .c)::xs.map fun x=>(x.1,x.2.map SC.er)):=by rw[ak.fS,g];rfl
   split at h
   ·exact⟨_,by simp only[fh.er,exec,B,zaL,ak.fJ];rfl,h⟩
   ·rename_i j;split at h
    ·rename_i ag cs hg;refine⟨_,?_,h⟩
     simp_all [fh.er,exec,List.getElem?_cons_succ,GB,AT,ak.fJ,OB]
    ·cases h
  ·cases h
 |len x=>
  simp only[jl] at h;split at h
  ·rename_i n sz lo len g;have C:=(cR h).1;replace h:=(cR h).2;have B:σ.er.ev x.er=.one (.sl n sz lo len):=by rw[ak.fS,g];rfl
   exact⟨_,by simp only[fh.er,exec,B,LP C,if_true,ak.fJ];rfl,h⟩
  ·rename_i ts xs g;have B:σ.er.ev x.er=.one (.c (.list ts.length (co (Ty.aQ ts) xs))):=by rw[ak.fS,g];rfl
   exact⟨_,by simp only[fh.er,exec,B,ak.fJ];exact congrArg (fun q:Nat=>some (σ.er.put d (aw.one (.c (.int .i64 (q:Int)))))) (AI (Ty.aQ ts)),h⟩
  ·rename_i ts g;have B:σ.er.ev x.er=.one (.nil ts.length):=by rw[ak.fS,g];rfl
   exact⟨_,by simp only[fh.er,exec,B,ak.fJ];rfl,h⟩
  ·rename_i n H N off sz len g;obtain⟨t,y,D,A⟩:=GJ h;have B:σ.er.ev x.er=.one (.cF n H N off sz len):=by rw[ak.fS,g];rfl
   have X:dX σ.er.h (.cF n H N off sz len)=some (t.er y):=D;split at A
   ·rename_i ts ys;exact⟨_,by simp only[fh.er,exec,B,X,Ty.er,ak.fJ];exact congrArg (fun q:Nat=>some (σ.er.put d (aw.one (.c (.int .i64 (q:Int)))))) (AI (Ty.aQ ts)),A⟩
   ·cases A
  ·cases h
 |append fl ts ew x y=>
  simp only[jl] at h;split at h
  ·cases h
  ·rename_i n;obtain⟨xs,m,σ1,D,A⟩:=auy h;obtain⟨ys,m2,σ2,h3,W⟩:=auz A;rw[fC] at W;obtain⟨_,hf,W⟩:=W;unfold jT at hf;split at hf
   ·rename_i C;split at W
    ·rename_i jX e;have i:=ak.uk e;refine⟨_,?_,W⟩
     replace C:(xs.length+ys.length)*ew<=fe:=C
     have f9:(SB.row true m2 ts (ci xs ys)).er=aV.row true m2 ts.length (co (Ty.aQ ts) xs++co (Ty.aQ ts) ys):=by simp[SB.er,ci]
     simp only[fh.er,exec,ak.fS,D,h3,AI,C,if_true,<-f9,i,ak.fJ];rfl
    ·cases W
   ·cases hf
 |mm mx x y=>
  simp only[jl] at h;split at h
  ·rename_i V a kd' b ex ey;have Y:σ.er.ev x.er=.one (.c (.int V a)):=by rw[ak.fS,ex];rfl
   have ey':σ.er.ev y.er=.one (.c (.int kd' b)):=by rw[ak.fS,ey];rfl
   split at h
   ·refine⟨_,?_,h⟩;rw[ak.fJ];simp only[fh.er,exec,Y,ey',if_true];by_cases O:LT.lt (α:=Int) a b
    ·exact(ai O).trans (congrArg (fun q:Int=>some (σ.er.put d (aw.one (.c (.int V q))))) (ai O:sf a b=b).symm)
    ·exact(aq O).trans (congrArg (fun q:Int=>some (σ.er.put d (aw.one (.c (.int V q))))) (aq O:sf a b=a).symm)
   ·refine⟨_,?_,h⟩;rw[ak.fJ];simp only[fh.er,exec,Y,ey',Pe,if_false];by_cases O:LT.lt (α:=Int) b a
    ·exact(ai O).trans (congrArg (fun q:Int=>some (σ.er.put d (aw.one (.c (.int V q))))) (ai O:jM a b=b).symm)
    ·exact(aq O).trans (congrArg (fun q:Int=>some (σ.er.put d (aw.one (.c (.int V q))))) (aq O:jM a b=a).symm)
  ·cases h
 |call m f xs=>
  simp only[jl] at h;obtain⟨σ1,D,A⟩:=av5 h;exact⟨σ1,by simp only[fh.er,exec,C7];exact D,A⟩
 |copy x y=>
  simp only[jl] at h;split at h
  ·rename_i n s lo len c g J;split at h
   ·rename_i gr m ts xs hn;have E:=(bn h).1;replace h:=(bn h).2;subst E;have ht:=(bn h).1;replace h:=(bn h).2;have C:=(cR h).1;replace h:=(cR h).2;simp only[BY] at C;obtain⟨u,ys,D,A⟩:=GJ h;split at A
    ·rename_i us ys;split at A
     ·rename_i M U;rw[fC] at A;obtain⟨aM,K,A⟩:=A;refine⟨_,?_,A⟩;have B:σ.er.ev x.er=.one (.sl n 1 lo len):=by rw[ak.fS,g];rfl
      have gB:σ.er.ev y.er=.one c.er:=by rw[ak.fS,J];rfl
      have BN:Ty.er (.list us) ys=Ty.er (.list ts) M:=by
       have:=Ty.akS U;exact this
      have X:dX σ.er.h c.er=some (.list ts.length (co (Ty.aQ ts) M)):=by
       have:dX σ.er.h c.er=some (Ty.er (.list us) ys):=D;rw[this,BN];rfl
      obtain⟨c1,c2⟩:=aca K;have kL:m≠ .bh:=by rintro rfl;exact absurd C.1 (by simp[Mode.own])
      simp only[fh.er,exec,B,gB,EZ hn,SB.er,X];rw[ai ⟨trivial,trivial,ht,ht,kL,yY ts xs C.2,yY ts M C.2,by simp_all⟩];rw[ak.fJ,ak.sK];simp only[SB.er,c2,ht];rw[show co (Ty.aQ ts) (zaI (α:=Ty.DL ts) len M)=zaI len (co (Ty.aQ ts) M) from zan,show(co (Ty.aQ ts) M).length=aa (α:=Ty.DL ts) M from AI _]
      rfl
     ·cases A
    ·cases A
   ·cases h
  ·cases h
 |wR t z x=>
  simp only[jl] at h;split at h
  ·rename_i n s lo len g;split at h
   ·rename_i gr m ts xs hn;have E:=(bn h).1;replace h:=(bn h).2;subst E;have C:=(cR h).1;replace h:=(cR h).2;simp only[BY] at C;split at h
    ·rename_i e G;rw[fC] at h;obtain⟨aM,K,h⟩:=h;refine⟨_,?_,h⟩;have B:σ.er.ev x.er=.one (.sl n 1 lo len):=by rw[ak.fS,g];rfl
     have kJ:Ty.aQ ts e=[t.er z]:=Aq G;have R:ts.length=1:=by
      have:=congrArg zar kJ;rw[Ty.Bp] at this;exact this
     have lc:Ty.io ts=true:=by
      have:=Ty.JZ ts e;rw[kJ] at this;simp only[Am.io,zaw,za0,zaM,Ty.Ck,C.2] at this;exact this.symm
     obtain⟨c1,c2⟩:=aca K;have kL:m≠ .bh:=by rintro rfl;exact absurd C.1 (by simp[Mode.own])
     simp only[fh.er,exec,B,EZ hn,SB.er];rw[ai ⟨trivial,R,by rw[Ty.Ck];exact C.2,kL,yY ts xs lc,by simp_all⟩];rw[ak.fJ,ak.sK];simp only[SB.er,c2,R,cJ,zaX,kJ];rfl
    ·cases h
   ·cases h
  ·cases h
 |qp m f xs=>
  simp only[jl] at h;obtain⟨σ1,D,A⟩:=av0 h;exact⟨σ1,by simp only[fh.er,exec,C7];exact D,A⟩
 |qV f xs=>
  simp only[jl] at h;obtain⟨σ1,D,A⟩:=avZ h;exact⟨σ1,by simp only[fh.er,exec,C7];exact D,A⟩
 |oI f xs=>
  simp only[jl] at h;obtain⟨v,D,A⟩:=av2 h;exact⟨σ.put d v,by simp only[fh.er,exec,C7,D,ak.fJ],A⟩
 |uf m f xs=>
  simp only[jl] at h;obtain⟨σ1,D,A⟩:=av4 h;exact⟨σ1,by simp only[fh.er,exec,C7];exact D,A⟩
 |pS f xs=>
  simp only[jl] at h;obtain⟨v,D,A⟩:=av3 h;exact⟨σ.put d v,by simp only[fh.er,exec,C7,D,ak.fJ],A⟩
structure e8 where
 dst:Option Nat
 op:fh
 guard:Option (Nat×Bool)
def e8.er (o:e8):dC:=⟨o.dst,o.op.er,o.guard⟩
def ak.lit (σ:ak) (n:Nat) (b:Bool):ak:={σ with env:=aN σ.env n (.one (.v .bool b))}
theorem ak.LO {σ:ak} {n:Nat} {b:Bool} (h:σ.env n=.one (.v .bool b)):(σ.lit n b).er=σ.er:=by have:aN σ.env n (.one (.v .bool b))=σ.env:=(by funext s;simp only[mZ];split;rename_i a;subst a;exact h.symm;rfl);simp only[ak.lit,this]
def tM (T:List aF):List e8->ak->(ak->Option ρ)->Option ρ
 |[],σ,k=>k σ
 |o::os,σ,k=>match o.guard with
  |none=>jl T o.dst o.op σ fun σ1=>tM T os σ1 k
  |some (s,tO)=>match σ.env s with
   |.one (.v .bool b)=>aA b
    (match tO with
     |true=>jl T o.dst o.op (σ.lit s true) fun σ1=>tM T os σ1 k
     |false=>tM T os ((σ.lit s true).put o.dst (.cT [])) k)
    (match tO with
     |true=>tM T os ((σ.lit s false).put o.dst (.cT [])) k
     |false=>jl T o.dst o.op (σ.lit s false) fun σ1=>tM T os σ1 k)
   |.cT []=>tM T os (σ.put o.dst (.cT [])) k
   |_=>none
theorem Oe {T:List aF}:∀{os:List e8} {σ:ak} {k:ak->Option ρ} {r:ρ},tM T os σ k=some r-> ∃σ1:ak,iv (dG T) (os.map e8.er) σ.er=some σ1.er/\k σ1=some r
 |[],σ,k,r,h=>⟨σ,rfl,h⟩
 |o::os,σ,k,r,h=>by obtain⟨d,op,g⟩:=o;have l:∀e:ak,e.er=σ.er->gA (dG T) (e8.er ⟨d,op,g⟩) σ.er=exec (dG T) d op.er σ.er->jl T d op e (fun σ1=>tM T os σ1 k)=some r-> ∃σ1:ak,iv (dG T) ((⟨d,op,g⟩::os).map e8.er) σ.er=some σ1.er/\k σ1=some r:=(by intro e f m a;obtain⟨σ1,p,q⟩:=ahW a;obtain⟨σ2,j,i⟩:=Oe q;rw[f] at p;exact⟨σ2,by simp_all [By,iv],i⟩);have skp:∀e:ak,e.er=σ.er->gA (dG T) (e8.er ⟨d,op,g⟩) σ.er=some (σ.er.put d (.cT []))->tM T os (e.put d (.cT [])) k=some r-> ∃σ1:ak,iv (dG T) ((⟨d,op,g⟩::os).map e8.er) σ.er=some σ1.er/\k σ1=some r:=(by intro e f m a;obtain⟨σ2,j,i⟩:=Oe a;rw[ak.fJ,f] at j;exact⟨σ2,by simp only[By,iv,m];exact j,i⟩);cases g with|none=>exact l σ rfl rfl h|some g=>obtain⟨s,tO⟩:=g;simp only[tM] at h;split at h;rename_i b a;have n:σ.er.env s=.one (.c (.bool b)):=(by show(σ.env s).er=_;rw[a];rfl);(cases hb:(b:Bool) with|true=>have f:(σ.lit s true).er=σ.er:=ak.LO (by rw[a,hb]);grind [Lz,gA,e8.er]|false=>have f:(σ.lit s false).er=σ.er:=ak.LO (by rw[a,hb]);grind [Lw,gA,e8.er]);rename_i a;have n:σ.er.env s=.cT []:=(by show(σ.env s).er=_;rw[a];rfl);grind [gA,e8.er];cases h
def u4 (T:List aF) (ps:List (Nat×Nat)):List e8->List (Option FP)->ak->(ak->Option ρ)->Option ρ
 |[],acc,σ,k=>fH (xA ps acc) (k σ)
 |o::os,acc,σ,k=>match o.guard with
  |none=>jl T o.dst o.op σ fun σ1=>u4 T ps os (acc++[o.er.fp σ.er]) σ1 k
  |some (s,tO)=>match σ.env s with
   |.one (.v .bool b)=>aA b
    (match tO with
     |true=>jl T o.dst o.op (σ.lit s true) fun σ1=>u4 T ps os (acc++[o.er.fp (σ.lit s true).er]) σ1 k
     |false=>u4 T ps os (acc++[o.er.fp (σ.lit s true).er]) ((σ.lit s true).put o.dst (.cT [])) k)
    (match tO with
     |true=>u4 T ps os (acc++[o.er.fp (σ.lit s false).er]) ((σ.lit s false).put o.dst (.cT [])) k
     |false=>jl T o.dst o.op (σ.lit s false) fun σ1=>u4 T ps os (acc++[o.er.fp (σ.lit s false).er]) σ1 k)
   |.cT []=>u4 T ps os (acc++[o.er.fp σ.er]) (σ.put o.dst (.cT [])) k
   |_=>none
theorem RT {T:List aF} {ps:List (Nat×Nat)}:∀{os:List e8} {acc:List (Option FP)} {σ:ak} {k:ak->Option ρ} {r:ρ},u4 T ps os acc σ k=some r-> ∃(σ1:ak) (a:List (Option FP)),n7 (dG T) (os.map e8.er) acc σ.er=some (a,σ1.er)/\xA ps a=true/\k σ1=some r
 |[],acc,σ,k,r,h=>⟨σ,acc,rfl,(cR h).1,(cR h).2⟩
 |o::os,acc,σ,k,r,h=>by obtain⟨d,op,g⟩:=o;have m:∀f:ak,f.er=σ.er->gA (dG T) (e8.er ⟨d,op,g⟩) σ.er=exec (dG T) d op.er σ.er->jl T d op f (fun σ1=>u4 T ps os (acc++[(e8.er ⟨d,op,g⟩).fp f.er]) σ1 k)=some r-> ∃(σ1:ak) (a:List (Option FP)),n7 (dG T) ((⟨d,op,g⟩::os).map e8.er) acc σ.er=some (a,σ1.er)/\xA ps a=true/\k σ1=some r:=(by intro f i n e;obtain⟨σ1,q,t⟩:=ahW e;obtain⟨σ2,a,j,l⟩:=RT t;rw[i] at q j;exact⟨σ2,a,by simp_all [By,n7],l⟩);have skp:∀f:ak,f.er=σ.er->gA (dG T) (e8.er ⟨d,op,g⟩) σ.er=some (σ.er.put d (.cT []))->u4 T ps os (acc++[(e8.er ⟨d,op,g⟩).fp f.er]) (f.put d (.cT [])) k=some r-> ∃(σ1:ak) (a:List (Option FP)),n7 (dG T) ((⟨d,op,g⟩::os).map e8.er) acc σ.er=some (a,σ1.er)/\xA ps a=true/\k σ1=some r:=(by intro f i n e;obtain⟨σ2,a,j,l⟩:=RT e;rw[ak.fJ,i] at j;exact⟨σ2,a,by simp only[By,n7,n];exact j,l⟩);cases g with|none=>exact m σ rfl rfl h|some g=>obtain⟨s,tO⟩:=g;simp only[u4] at h;split at h;rename_i b e;have p:σ.er.env s=.one (.c (.bool b)):=(by show(σ.env s).er=_;rw[e];rfl);(cases hb:(b:Bool) with|true=>have i:(σ.lit s true).er=σ.er:=ak.LO (by rw[e,hb]);grind [Lz,gA,e8.er]|false=>have i:(σ.lit s false).er=σ.er:=ak.LO (by rw[e,hb]);grind [Lw,gA,e8.er]);rename_i e;have p:σ.er.env s=.cT []:=(by show(σ.env s).er=_;rw[e];rfl);grind [gA,e8.er];cases h
end
def SC.mL (n:Nat):SC->SC
 |.cF m k aZ off sz len=>match zav m n with
  |true=>.cj
  |false=>.cF m k aZ off sz len
 |.eE m k aZ off sz i=>match zav m n with
  |true=>.cj
  |false=>.eE m k aZ off sz i
 |x=>x
def SC.cut (n:Nat):SC->SC
 |.fn f fv=>.fn f (fv.map (SC.mL n))
 |.cF m k aZ off sz len=>SC.mL n (.cF m k aZ off sz len)
 |.eE m k aZ off sz i=>SC.mL n (.eE m k aZ off sz i)
 |.v t x=>.v t x
 |.nil ts=>.nil ts
 |.ptr m k sz off=>.ptr m k sz off
 |.ez ts x off=>.ez ts x off
 |.sl m sz lo len=>.sl m sz lo len
 |.dE ts x off j m sz len=>.dE ts x off j m sz len
 |.cj=>.cj
theorem SC.Vo (n:Nat) (c:SC):(c.mL n).er=c.er.mL n:=by cases c with|cF m k a off sz len=>grind [SC.mL,SC.er,ao.mL]|eE m k a off sz i=>grind [SC.mL,SC.er,ao.mL]|_=>rfl
theorem SC.C2 (n:Nat) (c:SC):(c.cut n).er=c.er.cut n:=by cases c with|fn f fv=>simp only[SC.cut,SC.er,ao.cut,SC.Pv,zac];congr 1;exact zae fun c _=>SC.Vo n c|cF m k a off sz len=>exact SC.Vo n (.cF m k a off sz len)|eE m k a off sz i=>exact SC.Vo n (.eE m k a off sz i)|_=>rfl
theorem Ph (n:Nat) (cs:List SC):(cs.map (SC.cut n)).map SC.er=(cs.map SC.er).map (ao.cut n):=by simp only[zac];exact zae fun c _=>SC.C2 n c
def SV.cut (n:Nat):SV->SV
 |.one c=>.one (c.cut n)
 |.agg cs=>.agg (cs.map (SC.cut n))
 |.cT xs=>.cT (xs.map fun x=>(x.1,x.2.map (SC.cut n)))
 |.arr ts x=>.arr ts x
 |.pN ts x xs=>.pN ts x (xs.map fun x=>(x.1,x.2.map (SC.cut n)))
theorem Vt (n:Nat) (l:List C):(l.map ao.c).map (ao.cut n)=l.map .c:=by rw[zac];exact zae fun _ _=>rfl
theorem SV.C2 (n:Nat) (v:SV):(v.cut n).er=v.er.cut n:=by cases v with|one c=>simp only[SV.cut,SV.er,aw.cut,SC.C2]|agg cs=>simp only[SV.cut,SV.er,aw.cut,Ph]|cT xs=>simp only[SV.cut,SV.er,aw.cut,zac];congr 1;exact zae fun x _=>by simp only[za3];rw[Ph]|arr ts x=>simp only[SV.cut,SV.er,aw.cut,Vt]|pN ts x xs=>simp only[SV.cut,SV.er,aw.cut,By,Vt,zac];congr 2;exact zae fun x _=>by simp only[za3];rw[Ph]
def SB.cut (n:Nat):SB->SB
 |.box cs=>.box (cs.map (SC.cut n))
 |.row gr m ts xs=>.row gr m ts xs
 |.kt ts x=>.kt ts x
theorem SB.C2 (n:Nat) (b:SB):(b.cut n).er=b.er.cut n:=by cases b with|box cs=>simp only[SB.cut,SB.er,aV.cut,Ph]|row gr m ts xs=>rfl|kt ts x=>simp only[SB.cut,SB.er,aV.cut,Vt]
def ak.cut (σ:ak) (n:Nat):ak:={σ with env:=fun s=>(σ.env s).cut n,h:=fun m=>match σ.h m with|some b=>some (b.cut n)|none=>none}
theorem ak.C2 (σ:ak) (n:Nat):(σ.cut n).er=σ.er.cut n:=by simp only[ak.cut,ak.er,St.cut];congr 1;funext s;exact SV.C2 n (σ.env s);grind [eM,SB.C2]
def ak.xG (σ:ak) (s:Nat) (v:SV):ak:={σ with env:=aN σ.env s v}
theorem ak.ahS (σ:ak) (s:Nat) (v:SV):(σ.xG s v).er=σ.er.xG s v.er:=by simp only[ak.xG,ak.er,St.xG,Bo]
section
variable {ρ:Type}
structure Le where
 ia:Nat
 sz:Nat
 ew:Nat
 mx:eQ
 ml:eQ
 my:eQ
 d:Nat
def Le.er (s:Le):vm:=⟨s.ia,s.sz,s.ew,s.mx.er,s.ml.er,s.my.er,s.d⟩
def Kg (sp:Le) (σ:ak) (k:ak->Option ρ):Option ρ:=
 match σ.ev sp.mx,σ.ev sp.ml,σ.ev sp.my with
 |.one (.ptr n kk rs off),.one (.cF n' Ae pf qL _ _),.one yc=>
  dq n' n (dq pf rs (dq qL off (dq (off+1) rs (fH (!(zau aY n)) ((lm Ae kk).ae fun _=>match σ.h n with
   |some (.row true .live ts xs)=>dq ts.length rs ((bL xs kk).ae fun e=>match(Ty.jF ts e)[off]? with
    |some ⟨.list us,ls⟩=>dq us.length sp.sz (fH (Ty.io us) (Cs σ.h yc fun t y=>match t,y with
     |.list vs,ys=>match Ty.cast (.list vs) (.list us) ys with
      |some zs=>(jT (au (aa (α:=Ty.DL us) ls) (aa (α:=Ty.DL us) zs)) sp.ew).ae fun _=>match Od ts e off ⟨.list us,ci (α:=Ty.DL us) ls zs⟩ with
       |some e'=>k ((σ.cut n).fQ n (.row true .live ts (br xs kk e')))
       |none=>none
      |none=>none
     |_,_=>none))
    |_=>none)
   |_=>none)))))
 |_,_,_=>none
theorem Zz {a b:Nat} {u:Unit} (h:lm a b=some u):a=b:=by simp_all [lm]
theorem aiB {sp:Le} {σ:ak} {k:ak->Option ρ} {r:ρ} (h:Kg sp σ k=some r):∃σ1:ak,DR sp.er σ.er=some σ1.er/\k σ1=some r:=by unfold Kg at h;split at h;rename_i n kk rs off f c z i P K p F J Q;have d:=(bn h).1;replace h:=(bn h).2;subst d;have d:=(bn h).1;replace h:=(bn h).2;subst d;have d:=(bn h).1;replace h:=(bn h).2;subst d;have pW:=(bn h).1;replace h:=(bn h).2;have w:=(cR h).1;replace h:=(cR h).2;rw[fC] at h;obtain⟨_,q,h⟩:=h;have q:=Zz q;subst q;have sY:f<aY:=(by rcases Nat.lt_or_ge f aY with s|s;exact s;rw[OF s] at w;cases w);split at h;rename_i ts xs hn;have x:=(bn h).1;replace h:=(bn h).2;rw[fC] at h;obtain⟨e,l,h⟩:=h;replace l:xs[c]? =some e:=l;split at h;rename_i us b hd;have v:=(bn h).1;replace h:=(bn h).2;have B:=(cR h).1;replace h:=(cR h).2;obtain⟨t,y,I,h⟩:=GJ h;split at h;rename_i vs ys;split at h;rename_i a o;rw[fC] at h;obtain⟨_,g,h⟩:=h;have g:(zar (α:=Ty.DL us) b+zar (α:=Ty.DL us) a)*sp.ew<=fe:=(by unfold jT at g;split at g;assumption;cases g);split at h;rename_i m O;refine⟨_,?_,h⟩;have H:σ.er.ev sp.er.mx=.one (.ptr f c z i):=(by show σ.er.ev sp.mx.er=_;rw[ak.fS,F];rfl);have M:σ.er.ev sp.er.ml=.one (.cF f c z i P K):=(by show σ.er.ev sp.ml.er=_;rw[ak.fS,J];rfl);have E:σ.er.ev sp.er.my=.one p.er:=(by show σ.er.ev sp.my.er=_;rw[ak.fS,Q];rfl);have N:σ.er.h f=some (.row true .live ts.length (co (Ty.aQ ts) xs)):=(by simp[ak.er,eM,hn,SB.er]);have A:(co (Ty.aQ ts) xs)[c]? =some (Ty.aQ ts e):=(by rw[GB,l];rfl);have yt:=Pj hd;have D:dX σ.er.h p.er=some ((Ty.list us).er a):=(by rw[<-Ty.U6 o];exact I);have L:(Ty.aQ ts e)[i]? =some (.list us.length (co (Ty.aQ us) b)):=yt;have S:dX σ.er.h p.er=some (.list us.length (co (Ty.aQ us) a)):=D;simp only[DR,H,M,E,pW,sY,and_self,if_true,N,x,A,zai,L,S];have j:((co (Ty.aQ us) b).length+(co (Ty.aQ us) a).length)*sp.er.ew<=fe:=(by rw[show(co (Ty.aQ us) b).length=zar (α:=Ty.DL us) b from AI _,show(co (Ty.aQ us) a).length=zar (α:=Ty.DL us) a from AI _];exact g);rw[ai ⟨v,v,yY us b B,yY us a B,j⟩];have G:=ZS O;have u:(co (Ty.aQ ts) xs).getD c []=Ty.aQ ts e:=(by rw[zao,A];rfl);rw[ak.sK,ak.C2,u];simp only[SB.er];rw[show(co (Ty.aQ ts) (br xs c m))=(co (Ty.aQ ts) xs).set c (Ty.aQ ts m) from by show co _ (xs.set c m)=_;simp_all,G];have R:(Ty.list us).er (ci (α:=Ty.DL us) b a)=.list us.length (co (Ty.aQ us) b++co (Ty.aQ us) a):=(by show C.list us.length (co (Ty.aQ us) (List.append (α:=Ty.DL us) b a))=_;exact congrArg (C.list us.length) za1);rw[R,v,x];rfl;cases h;cases h;cases h;cases h;cases h;cases h
inductive AU where
 |A6 (ts:List Ty) (p:eQ)
 |CV (p:eQ) (s:Nat)
 |pop (x lo:eQ) (s:Nat)
 |A7 (f:FuncId) (xs:List eQ)
def AU.er:AU->KJ
 |.A6 ts p=>.A6 ts.length p.er
 |.CV p s=>.CV p.er s
 |.pop x lo s=>.pop x.er lo.er s
 |.A7 f xs=>.A7 f (xs.map eQ.er)
inductive AV where
 |op (m:e8)
 |vB (d:Nat) (c:AU)
def AV.er:AV->KI
 |.op m=>.op m.er
 |.vB d c=>.vB d c.er
def aak (σ:ak) (c:SC) (last:Bool) (k:TD->ak->Option ρ):Option ρ:=
 match c with
 |.v t x=>fH t.gI (k ⟨t,x⟩ σ)
 |.nil ts=>match ts with
  |[]=>none
  |t::us=>k ⟨.list (t::us),([]:List (Ty.DL (t::us)))⟩ σ
 |.sl n sz lo len=>match σ.h n with
  |some (.row gr m ts xs)=>dq ts.length sz (fH (m.own&&Ty.io ts) (dq lo 0 ((dO xs len).ae fun ys=>match last with
   |true=>fH gr ((agS len).ae fun _=>k ⟨.list ts,ys⟩ (σ.del n))
   |false=>k ⟨.list ts,ys⟩ (σ.del n))))
  |_=>none
 |_=>none
theorem awJ {ts:List Ty} {xs ys:List (Ty.DL ts)} {len:Nat} (h:dO xs len=some ys):len<=xs.length/\(co (Ty.aQ ts) xs).take len=co (Ty.aQ ts) ys:=by grind [zan,dO]
theorem awz {σ:ak} {c:SC} {a:Bool} {k:TD->ak->Option ρ} {r:ρ} (h:aak σ c a k=some r): ∃(x:TD) (o:Bool) (σ1:ak),σ.er.AF c.er=some (x.1.er x.2,o,σ1.er)/\(a=true->o=true)/\k x σ1=some r:=by unfold aak at h;split at h;rename_i t x;have l:=(cR h).1;replace h:=(cR h).2;refine⟨⟨t,x⟩,true,σ,?_,fun _=>rfl,h⟩;simp only[SC.er,St.AF,Ty.Ck,l,if_true];split at h;cases h;rename_i t us;exact⟨⟨.list (t::us),[]⟩,true,σ,by simp[SC.er,St.AF,Ty.er],fun _=>rfl,h⟩;rename_i n sz lo len;split at h;rename_i d m ts xs hn;have b:=(bn h).1;replace h:=(bn h).2;subst b;have hm:=(cR h).1;replace h:=(cR h).2;have b:=(bn h).1;replace h:=(bn h).2;subst b;rw[fC] at h;obtain⟨ys,f,h⟩:=h;obtain⟨e,g⟩:=awJ f;simp only[BY] at hm;have j:m≠ .bh:=(by rintro rfl;cases hm.1);have i:σ.er.h n=some (.row d m ts.length (co (Ty.aQ ts) xs)):=(by simp[ak.er,eM,hn,SB.er]);have eW:σ.er.AF (SC.sl n ts.length 0 len).er=some ((Ty.list ts).er ys,d&&decide (0<len),(σ.del n).er):=(by simp only[SC.er,St.AF,i,AI,ne_eq,j,not_false_eq_true,yY ts xs hm.2,e,and_self,if_true,g,ak.HT];rfl);(cases a with|false=>grind|true=>have hg:=(cR h).1;replace h:=(cR h).2;grind [fC,agS]);cases h;cases h
def SH:ak->List SC->(List TD->ak->Option ρ)->Option ρ
 |σ,[],k=>k [] σ
 |σ,c::cs,k=>aak σ c (match cs with|[]=>true|_::_=>false) fun x σ1=>SH σ1 cs fun l σ2=>k (x::l) σ2
theorem ai3:∀{cs:List SC} {σ:ak} {k:List TD->ak->Option ρ} {r:ρ},SH σ cs k=some r->∃l σ1,σ.er.xJ (cs.map SC.er)=some (eK l,true,σ1.er)/\k l σ1=some r
 |[],σ,k,r,h=>⟨[],σ,rfl,h⟩
 |c::cs,σ,k,r,h=>by simp only[SH] at h;obtain⟨x,o,σ1,h1,h2,a⟩:=awz h;obtain⟨l,σ2,h4,h5⟩:=ai3 a;grind [St.xJ,eK]
def ZL (T:List aF) (d:Nat) (f:FuncId) (as:List SV) (σ:ak) (k:ak->Option ρ):Option ρ:=
 match aF.q9 5 T f with
 |some fn=>Oy σ.h as fun ds=>match rz fn.args ds with
  |some x=>(fn.F x).ae fun rs=>match nc fn.aC rs with
   |[(.one,[⟨.list ts,xs⟩])]=>match σ.ins (nT (some d)) (.row true .live ts xs) with
    |some σ1=>k (σ1.put (some d) (.one (.sl (nT (some d)) ts.length 0 (aa (α:=Ty.DL ts) xs))))
    |none=>none
   |_=>none
  |none=>none
 |none=>none
theorem av1 {T:List aF} {d:Nat} {f:FuncId} {as:List SV} {σ:ak} {k:ak->Option ρ} {r:ρ} (h:ZL T d f as σ k=some r): ∃σ1:ak,LJ (dG T) d f (as.map SV.er) σ.er=some σ1.er/\k σ1=some r:=by unfold ZL at h;split at h;rename_i fn n;obtain⟨ds,j,a⟩:=aas h;split at a;rename_i x hx;rw[fC] at a;obtain⟨b,m,a⟩:=a;split at a;rename_i ts xs e;split at a;rename_i σ1 l;refine⟨_,?_,a⟩;have o:fn.M (ds.map cW.er)=some [(.one,[.list ts.length (co (Ty.aQ ts) xs)])]:=(by have c:fn.M (ds.map cW.er)=some (eG fn.aC b):=(by rw[wv hx,aF.CL,m];rfl);have g:eG fn.aC b=[(.one,[.list ts.length (co (Ty.aQ ts) xs)])]:=(by rw[<-Bg,e];rfl);exact c.trans (congrArg some g));have i:qk σ.er.h (as.map SV.er)=some (ds.map cW.er):=j;have hi':σ.er.ins (nT (some d)) (.row true .live ts.length (co (Ty.aQ ts) xs))=some σ1.er:=ak.uk l;simp only[LJ,i,aF.ac1 n,o,hi',ak.fJ,SV.er,SC.er];exact congrArg (fun q=>some (σ1.er.put (some d) (.one (.sl (nT (some d)) ts.length 0 q)))) (AI (Ty.aQ ts));cases a;cases a;cases a;cases h
def J1 (T:List aF) (d:Nat) (c:AU) (σ:ak) (k:ak->Option ρ):Option ρ:=
 match c with
 |.A6 ts p=>match(σ.ev p).cells? with
  |some (_,cs)=>dq cs.length ts.length (SH σ cs fun l σ1=>match uQ ts l with
   |some e=>match σ1.ins d (.row true .live ts [e]) with
    |some σ2=>k (σ2.put (some d) (.one (.sl d ts.length 0 1)))
    |none=>none
   |none=>none)
  |none=>none
 |.CV p s=>match σ.ev p,σ.env s with
  |.one (.sl q sz lo len),.one (.sl q' bf An xt)=>dq q' q (dq bf sz (dq lo 0 (dq An 0 (fH (!(zav s d)) ((lm xt len).ae fun _=>SE σ (.sl q sz 0 len) fun t x o σ1=>fH o (match σ1.ins d (.row true .bi [t] [x]) with
   |some σ2=>k ((σ2.put (some d) (.one (.sl d 1 0 1))).xG s (.one (.v t x)))
   |none=>none))))))
  |_,_=>none
 |.pop x lo s=>match σ.ev x,(σ.ev lo).fW,σ.env s with
  |.one (.sl n s1 l1 len),some l,.one (.cF n' kk rs off _ _)=>dq s1 1 (dq l1 0 (dq n' n (dq rs 1 (dq off 0 (fH (!(zav s d)) (fH (decide (l=1)) ((lm kk 0).ae fun _=>match σ.h n with
   |some (.row true .live [.list us] xs)=>(aU 0 len (aa xs)).ae fun _=>(bL (α:=List (Ty.DL us)) xs 0).ae fun ys=>fH (Ty.io us) (match(σ.del n).ins d (.row true .live [.list us] (SP xs)) with
    |some σ1=>match σ1.ins (nT (some d)) (.row false .bi us ys) with
     |some σ2=>k ((σ2.put (some d) (.one (.sl d 1 0 (aa (SP xs))))).xG s (.one (.sl (nT (some d)) us.length 0 (aa ys))))
     |none=>none
    |none=>none)
   |_=>none)))))))
  |_,_,_=>none
 |.A7 f xs=>ZL T d f (xs.map σ.ev) σ k
theorem avY {T:List aF} {d:Nat} {c:AU} {σ:ak} {k:ak->Option ρ} {r:ρ} (h:J1 T d c σ k=some r): ∃σ1:ak,x8 (dG T) d c.er σ.er=some σ1.er/\k σ1=some r:=by cases c with|A6 ts p=>simp only[J1] at h;split at h;rename_i ag cs V;have hl:=(bn h).1;replace h:=(bn h).2;obtain⟨l,σ1,j,b⟩:=ai3 h;split at b;rename_i e L;split at b;rename_i σ2 F;refine⟨_,?_,b⟩;have i:(σ.er.ev p.er).cells?=some (ag,cs.map SC.er):=(by rw[ak.fS];exact SV.pq V);have hi':σ1.er.ins d (.row true .live ts.length [eK l])=some σ2.er:=(by have:=ak.uk F;simp only[SB.er,By,zaQ,Aq L] at this;exact this);simp only[AU.er,x8,i,AI,hl,if_true,j,hi',ak.fJ];rfl;cases b;cases b;cases h|CV p s=>simp only[J1] at h;split at h;rename_i q sz lo len H G An B y A;have a:=(bn h).1;replace h:=(bn h).2;subst a;have a:=(bn h).1;replace h:=(bn h).2;subst a;have a:=(bn h).1;replace h:=(bn h).2;subst a;have a:=(bn h).1;replace h:=(bn h).2;subst a;have m:=(cR h).1;replace h:=(cR h).2;rw[fC] at h;obtain⟨_,g,h⟩:=h;have g:=Zz g;subst g;obtain⟨t,x,o,σ1,j,b⟩:=ai1 h;have I:=(cR b).1;replace b:=(cR b).2;subst I;split at b;rename_i σ2 F;refine⟨_,?_,b⟩;have i:σ.er.ev p.er=.one (.sl H G 0 B):=(by rw[ak.fS,y];rfl);have w:σ.er.env s=.one (.sl H G 0 B):=(by show(σ.env s).er=_;rw[A];rfl);have D:s≠d:=(by rintro rfl;rw[zaf] at m;cases m);have R:σ.er.ir (.sl H G 0 B)=some (t.er x,true,σ1.er):=j;have hi':σ1.er.ins d (.row true .bi 1 [[t.er x]])=some σ2.er:=ak.uk F;simp only[AU.er,x8,i,w,ne_eq,D,not_false_eq_true,and_self,if_true,R,hi',ak.ahS,ak.fJ];rfl;cases b;cases h|pop x lo s=>simp only[J1] at h;split at h;rename_i n s1 l1 len l v kk rs off X P y A Y;have a:=(bn h).1;replace h:=(bn h).2;subst a;have a:=(bn h).1;replace h:=(bn h).2;subst a;have a:=(bn h).1;replace h:=(bn h).2;subst a;have a:=(bn h).1;replace h:=(bn h).2;subst a;have a:=(bn h).1;replace h:=(bn h).2;subst a;have m:=(cR h).1;replace h:=(cR h).2;have hl:=(cR h).1;replace h:=(cR h).2;have hl:=of_decide_eq_true hl;subst hl;rw[fC] at h;obtain⟨_,g,h⟩:=h;have g:=Zz g;subst g;split at h;rename_i us xs hn;rw[fC] at h;obtain⟨_,hf,h⟩:=h;obtain⟨_,u⟩:=Wh hf;rw[fC] at h;obtain⟨ys,hy,h⟩:=h;have Z:=(cR h).1;replace h:=(cR h).2;split at h;rename_i σ1 N;split at h;rename_i σ2 W;refine⟨_,?_,h⟩;have i:σ.er.ev x.er=.one (.sl v 1 0 len):=(by rw[ak.fS,y];rfl);have J:(σ.er.ev lo.er).fW=some 1:=(by rw[ak.fS];exact SV.FI A);have w:σ.er.env s=.one (.cF v 0 1 0 X P):=(by show(σ.env s).er=_;rw[Y];rfl);have D:s≠d:=(by rintro rfl;rw[zaf] at m;cases m);have S:σ.er.h v=some (.row true .live 1 (co (Ty.aQ [.list us]) xs)):=(by simp[ak.er,eM,hn,SB.er]);have O:(co (Ty.aQ [.list us]) xs)[0]? =some [C.list us.length (co (Ty.aQ us) ys)]:=aen (ts:=[.list us]) (ys:=xs) hy;have U:=yY us ys Z;have z:(σ.er.del v).ins d (.row true .live 1 ((co (Ty.aQ [.list us]) xs).drop 1))=some σ1.er:=(by have:=ak.uk N;rw[ak.HT] at this;simp only[SB.er,SP] at this;rw[zat] at this;exact this);have E:σ1.er.ins (nT (some d)) (.row false .bi us.length (co (Ty.aQ us) ys))=some σ2.er:=ak.uk W;have Q:len=(co (Ty.aQ [.list us]) xs).length:=(by rw[u];exact(AI _).symm);simp only[AU.er,x8,i,J,w,ne_eq,D,not_false_eq_true,and_self,if_true,S,Q,O,U,z,E,ak.ahS,ak.fJ,SV.er,SC.er];have M:(co (Ty.aQ [.list us]) xs).length - 1=aa (SP xs):=(by show _=(xs.drop 1).length;rw[List.length_drop,AI]);have K:(co (Ty.aQ us) ys).length=aa (α:=Ty.DL us) ys:=AI _;rw[M,K];cases h;cases h;cases h;cases h|A7 f xs=>simp only[J1] at h;obtain⟨σ1,j,b⟩:=av1 h;refine⟨σ1,?_,b⟩;simp only[AU.er,x8];rw[<-j];congr 1;simp only[zac];exact zae fun x _=>ak.fS σ x
def ahV (T:List aF) (m:e8) (σ:ak) (k:ak->Option ρ):Option ρ:=tM T [m] σ k
theorem awa {T:List aF} {m:e8} {σ:ak} {k:ak->Option ρ} {r:ρ} (h:ahV T m σ k=some r):∃σ1:ak,gA (dG T) m.er σ.er=some σ1.er/\k σ1=some r:=by obtain⟨σ1,h1,h2⟩:=Oe h;grind [iv]
def Oc (T:List aF):List AV->ak->(ak->Option ρ)->Option ρ
 |[],σ,k=>k σ
 |.op m::l,σ,k=>ahV T m σ fun σ1=>Oc T l σ1 k
 |.vB d c::l,σ,k=>J1 T d c σ fun σ1=>Oc T l σ1 k
theorem ZG {T:List aF}:∀{l:List AV} {σ:ak} {k:ak->Option ρ} {r:ρ},Oc T l σ k=some r->∃σ1:ak,zu (dG T) (l.map AV.er) σ.er=some σ1.er/\k σ1=some r
 |[],σ,k,r,h=>⟨σ,rfl,h⟩
 |.op m::l,σ,k,r,h=>by obtain⟨σ1,e,a⟩:=awa h;obtain⟨σ2,f,b⟩:=ZG a;grind [AV.er,zu]
 |.vB d c::l,σ,k,r,h=>by obtain⟨σ1,e,a⟩:=avY h;obtain⟨σ2,f,b⟩:=ZG a;grind [AV.er,zu]
end
inductive LT where
 |unit
 |ty (t:Ty)
 |dl (ts:List Ty)
 |nat
 |pair (a b:LT)
def LT.D:LT->Type
 |.unit=>Unit
 |.ty t=>t.D
 |.dl ts=>Ty.DL ts
 |.nat=>Nat
 |.pair a b=>a.D×b.D
def LT.Kh (a:LT):LT->LT
 |.unit=>a
 |.ty t=>.pair a (.ty t)
 |.dl ts=>.pair a (.dl ts)
 |.nat=>.pair a .nat
 |.pair x y=>.pair a (.pair x y)
def LT.sp:LT->LT->LT
 |.unit,b=>b
 |.ty t,b=>LT.Kh (.ty t) b
 |.dl ts,b=>LT.Kh (.dl ts) b
 |.nat,b=>LT.Kh .nat b
 |.pair x y,b=>LT.Kh (.pair x y) b
def LT.Oo (a:LT):(b:LT)->(LT.Kh a b).D->a.D×b.D
 |.unit,x=>(x,())
 |.ty _,x=>x
 |.dl _,x=>x
 |.nat,x=>x
 |.pair _ _,x=>x
def LT.yZ:(a b:LT)->(LT.sp a b).D->a.D×b.D
 |.unit,b,x=>((),x)
 |.ty t,b,x=>LT.Oo (.ty t) b x
 |.dl ts,b,x=>LT.Oo (.dl ts) b x
 |.nat,b,x=>LT.Oo .nat b x
 |.pair x y,b,z=>LT.Oo (.pair x y) b z
def LT.On (a:LT):(b:LT)->a.D->b.D->(LT.Kh a b).D
 |.unit,x,_=>x
 |.ty _,x,y=>(x,y)
 |.dl _,x,y=>(x,y)
 |.nat,x,y=>(x,y)
 |.pair _ _,x,y=>(x,y)
def LT.Om:(a b:LT)->a.D->b.D->(LT.sp a b).D
 |.unit,b,_,y=>y
 |.ty t,b,x,y=>LT.On (.ty t) b x y
 |.dl ts,b,x,y=>LT.On (.dl ts) b x y
 |.nat,b,x,y=>LT.On .nat b x y
 |.pair u v,b,x,y=>LT.On (.pair u v) b x y
theorem LT.awq (a b:LT) (x:a.D) (y:b.D):LT.Oo a b (LT.On a b x y)=(x,y):=by cases b<;>rfl
theorem LT.aiJ (a b:LT) (x:a.D) (y:b.D):LT.yZ a b (LT.Om a b x y)=(x,y):=by cases a with|unit=>rfl|_=>exact LT.awq _ b x y
section
variable {α β ρ:Type} {L:α->LT}
def LL (L:α->LT):List α->LT
 |[]=>.unit
 |a::l=>LT.sp (L a) (LL L l)
def vh (un:(a:α)->(L a).D->β):(l:List α)->(LL L l).D->List β
 |[],_=>[]
 |a::l,x=>un a (LT.yZ (L a) (LL L l) x).1::vh un l (LT.yZ (L a) (LL L l) x).2
def wY (flat:(a:α)->β->((L a).D->Option ρ)->Option ρ):(l:List α)->List β->((LL L l).D->Option ρ)->Option ρ
 |[],[],k=>k ()
 |a::l,b::bs,k=>flat a b fun x=>wY flat l bs fun y=>k (LT.Om (L a) (LL L l) x y)
 |_,_,_=>none
theorem Dc {flat:(a:α)->β->((L a).D->Option ρ)->Option ρ} {un:(a:α)->(L a).D->β} (d:∀a b k r,flat a b k=some r->∃x,b=un a x/\k x=some r):∀{l:List α} {c:List β} {k:(LL L l).D->Option ρ} {r:ρ},wY flat l c k=some r-> ∃x,c=vh un l x/\k x=some r
 |[],[],k,r,h=>⟨(),rfl,h⟩
 |a::l,b::c,k,r,h=>by simp only[wY] at h;obtain⟨x,rfl,e⟩:=d _ _ _ _ h;obtain⟨y,rfl,h4⟩:=Dc d e;grind [vh,LT.aiJ]
 |[],_::_,k,r,h=>by simp[wY] at h
 |_::_,[],k,r,h=>by simp[wY] at h
end
inductive mI where
 |v (t:Ty)
 |nil (ts:List Ty)
 |NZ (n off:Nat)
 |ptr (n sz off:Nat)
 |ez (ts:List Ty) (off:Nat)
 |dE (ts:List Ty) (off j n sz:Nat)
 |full (n sz:Nat)
 |sl (n sz:Nat)
 |cF (n aZ off sz:Nat)
 |cj
inductive gY where
 |c (s:mI)
 |fn (f:FuncId) (fv:List mI)
inductive mf where
 |one (c:gY)
 |agg (cs:List gY)
 |cT (xs:List (Bool×List gY))
inductive jr where
 |box (cs:List gY)
 |row (gr:Bool) (m:Mode) (ts:List Ty)
 |kt (ts:List Ty)
structure oG where
 env:List (Nat×mf)
 heap:List (Nat×jr)
abbrev oG.ke (sh:oG):List Nat:=sh.env.map (·.1)
def mI.L:mI->LT
 |.v t=>.ty t
 |.nil _=>.unit
 |.NZ _ _=>.unit
 |.ptr _ _ _=>.nat
 |.ez ts _=>.dl ts
 |.dE ts _ _ _ _=>.dl ts
 |.full _ _=>.unit
 |.sl _ _=>.pair .nat .nat
 |.cF _ _ _ _=>.pair .nat .nat
 |.cj=>.unit
def mI.un (ln:Nat->Nat):(s:mI)->s.L.D->SC
 |.v t,x=>.v t x
 |.nil ts,_=>.nil ts
 |.NZ n off,_=>.ptr n 0 0 off
 |.ptr n sz off,k=>.ptr n k sz off
 |.ez ts off,x=>.ez ts x off
 |.dE ts off j n sz,x=>.dE ts x off j n sz (ln n)
 |.full n sz,_=>.sl n sz 0 (ln n)
 |.sl n sz,x=>.sl n sz x.1 x.2
 |.cF n aZ off sz,x=>.cF n x.1 aZ off sz x.2
 |.cj,_=>.cj
section
variable {ρ:Type}
def mI.flat (ln:Nat->Nat) (s:mI) (c:SC) (k:s.L.D->Option ρ):Option ρ:=
 match s,c with
 |.v t,.v u x=>match Ty.cast u t x with
  |some y=>k y
  |none=>none
 |.nil ts,.nil us=>fH (Ty.x6 us ts) (k ())
 |.NZ n off,.ptr n' kk sz qL=>dq n' n (dq kk 0 (dq sz 0 (dq qL off (k ()))))
 |.ptr n sz off,.ptr n' kk bf qL=>dq n' n (dq bf sz (dq qL off (k kk)))
 |.ez ts off,.ez us x qL=>dq qL off (match Ty.wP us ts x with
  |some y=>k y
  |none=>none)
 |.dE ts off j n sz,.dE us x qL j' n' bf len=>dq qL off (dq j' j (dq n' n (dq bf sz ((aU 0 len (ln n)).ae fun _=>match Ty.wP us ts x with
  |some y=>k y
  |none=>none))))
 |.full n sz,.sl n' bf lo len=>dq n' n (dq bf sz ((aU lo len (ln n)).ae fun _=>k ()))
 |.sl n sz,.sl n' bf lo len=>dq n' n (dq bf sz (k (lo,len)))
 |.cF n aZ off sz,.cF n' kk aug qL bf len=>dq n' n (dq aug aZ (dq qL off (dq bf sz (k (kk,len)))))
 |.cj,.cj=>k ()
 |_,_=>none
theorem Ty.cast_eq {t u:Ty} {x:t.D} {y:u.D} (h:Ty.cast t u x=some y):SC.v t x=SC.v u y:=by grind [Ty.cast]
theorem Ty.akP {ts us:List Ty} {x:Ty.DL ts} {y:Ty.DL us} (h:Ty.wP ts us x=some y) (off:Nat):SC.ez ts x off=SC.ez us y off:=by grind [Ty.wP]
theorem Ty.akQ {ts us:List Ty} {x:Ty.DL ts} {y:Ty.DL us} (h:Ty.wP ts us x=some y) (off j n sz len:Nat):SC.dE ts x off j n sz len=SC.dE us y off j n sz len:=by grind [Ty.wP]
theorem mI.vG {e:Nat->Nat} (s:mI) (c:SC) (k:s.L.D->Option ρ) (r:ρ) (h:s.flat e c k=some r):∃x,c=s.un e x/\k x=some r:=by cases s with|v t=>(cases c<;>simp only[mI.flat] at h<;>first|(cases h;done)|skip);split at h;rename_i y hy;exact⟨y,Ty.cast_eq hy,h⟩;cases h|nil ts=>(cases c<;>simp only[mI.flat] at h<;>first|(cases h;done)|skip);have f:=(cR h).1;replace h:=(cR h).2;exact⟨(),by rw[Ty.CT f];rfl,h⟩|NZ n off=>(cases c<;>simp only[mI.flat] at h<;>first|(cases h;done)|skip);have a:=(bn h).1;replace h:=(bn h).2;subst a;have a:=(bn h).1;replace h:=(bn h).2;subst a;have a:=(bn h).1;replace h:=(bn h).2;subst a;have a:=(bn h).1;replace h:=(bn h).2;subst a;exact⟨(),rfl,h⟩|ptr n sz off=>(cases c<;>simp only[mI.flat] at h<;>first|(cases h;done)|skip);have a:=(bn h).1;replace h:=(bn h).2;subst a;have a:=(bn h).1;replace h:=(bn h).2;subst a;have a:=(bn h).1;replace h:=(bn h).2;subst a;exact⟨_,rfl,h⟩|ez ts off=>(cases c<;>simp only[mI.flat] at h<;>first|(cases h;done)|skip);have a:=(bn h).1;replace h:=(bn h).2;subst a;split at h;rename_i y hy;exact⟨y,Ty.akP hy _,h⟩;cases h|dE ts off j n sz=>(cases c<;>simp only[mI.flat] at h<;>first|(cases h;done)|skip);have a:=(bn h).1;replace h:=(bn h).2;subst a;have a:=(bn h).1;replace h:=(bn h).2;subst a;have a:=(bn h).1;replace h:=(bn h).2;subst a;have a:=(bn h).1;replace h:=(bn h).2;subst a;rw[fC] at h;obtain⟨_,b,h⟩:=h;unfold aU at b;split at b;rename_i d;obtain⟨_,rfl⟩:=d;split at h;rename_i y hy;exact⟨y,Ty.akQ hy _ _ _ _ _,h⟩;cases h;cases b|full n sz=>(cases c<;>simp only[mI.flat] at h<;>first|(cases h;done)|skip);have a:=(bn h).1;replace h:=(bn h).2;subst a;have a:=(bn h).1;replace h:=(bn h).2;subst a;rw[fC] at h;obtain⟨_,b,h⟩:=h;unfold aU at b;split at b;rename_i d;obtain⟨rfl,rfl⟩:=d;exact⟨(),rfl,h⟩;cases b|sl n sz=>(cases c<;>simp only[mI.flat] at h<;>first|(cases h;done)|skip);have a:=(bn h).1;replace h:=(bn h).2;subst a;have a:=(bn h).1;replace h:=(bn h).2;subst a;exact⟨_,rfl,h⟩|cF n aZ off sz=>(cases c<;>simp only[mI.flat] at h<;>first|(cases h;done)|skip);have a:=(bn h).1;replace h:=(bn h).2;subst a;have a:=(bn h).1;replace h:=(bn h).2;subst a;have a:=(bn h).1;replace h:=(bn h).2;subst a;have a:=(bn h).1;replace h:=(bn h).2;subst a;exact⟨_,rfl,h⟩|cj=>(cases c<;>simp only[mI.flat] at h<;>first|(cases h;done)|skip);exact⟨(),rfl,h⟩
def gY.L:gY->LT
 |.c s=>s.L
 |.fn _ fv=>LL mI.L fv
def gY.un (ln:Nat->Nat):(s:gY)->s.L.D->SC
 |.c s,x=>s.un ln x
 |.fn f fv,x=>.fn f (vh (mI.un ln) fv x)
def gY.flat (ln:Nat->Nat) (s:gY) (c:SC) (k:s.L.D->Option ρ):Option ρ:=
 match s,c with
 |.c s,c=>s.flat ln c k
 |.fn f fv,.fn f' cs=>dq f' f (wY (mI.flat ln) fv cs k)
 |_,_=>none
theorem gY.vG {d:Nat->Nat} (s:gY) (c:SC) (k:s.L.D->Option ρ) (r:ρ) (h:s.flat d c k=some r):∃x,c=s.un d x/\k x=some r:=by cases s with|c s=>exact s.vG c k r (by cases c<;>exact h)|fn f fv=>(cases c<;>simp only[gY.flat] at h<;>first|(cases h;done)|skip);have i:=(bn h).1;replace h:=(bn h).2;subst i;obtain⟨x,g,e⟩:=Dc (un:=mI.un d) (fun a b k r=>mI.vG a b k r) h;subst g;replace h:=e;exact⟨x,rfl,h⟩
def mf.L:mf->LT
 |.one c=>c.L
 |.agg cs=>LL gY.L cs
 |.cT xs=>LL (fun x:Bool×List gY=>LL gY.L x.2) xs
def mf.un (ln:Nat->Nat):(s:mf)->s.L.D->SV
 |.one c,x=>.one (c.un ln x)
 |.agg cs,x=>.agg (vh (gY.un ln) cs x)
 |.cT xs,x=>.cT (vh (L:=fun x:Bool×List gY=>LL gY.L x.2) (fun a y=>(a.1,vh (gY.un ln) a.2 y)) xs x)
def adb (ln:Nat->Nat) (a:Bool×List gY) (b:Bool×List SC) (k:(LL gY.L a.2).D->Option ρ):Option ρ:=
 fH (a.1==b.1) (wY (gY.flat ln) a.2 b.2 k)
def mf.flat (ln:Nat->Nat) (s:mf) (v:SV) (k:s.L.D->Option ρ):Option ρ:=
 match s,v with
 |.one c,.one v=>c.flat ln v k
 |.agg cs,.agg vs=>wY (gY.flat ln) cs vs k
 |.cT xs,.cT vs=>wY (L:=fun x:Bool×List gY=>LL gY.L x.2) (adb ln) xs vs k
 |_,_=>none
theorem mf.vG {d:Nat->Nat} (s:mf) (v:SV) (k:s.L.D->Option ρ) (r:ρ) (h:s.flat d v k=some r):∃x,v=s.un d x/\k x=some r:=by cases s with|one c=>(cases v<;>simp only[mf.flat] at h<;>first|(cases h;done)|skip);obtain⟨x,f,e⟩:=gY.vG _ _ _ _ h;subst f;replace h:=e;exact⟨x,rfl,h⟩|agg cs=>(cases v<;>simp only[mf.flat] at h<;>first|(cases h;done)|skip);obtain⟨x,f,e⟩:=Dc (un:=gY.un d) (fun a b k r=>gY.vG a b k r) h;subst f;replace h:=e;exact⟨x,rfl,h⟩|cT xs=>(cases v<;>simp only[mf.flat] at h<;>first|(cases h;done)|skip);obtain⟨x,f,e⟩:=Dc (L:=fun x:Bool×List gY=>LL gY.L x.2) (un:=fun a y=>(a.1,vh (gY.un d) a.2 y)) (fun a b k r h=>by unfold adb at h;have h1:=(cR h).1;replace h:=(cR h).2;obtain⟨x,h2,h⟩:=Dc (un:=gY.un d) (fun a b k r=>gY.vG a b k r) h;grind) h;subst f;exact⟨x,rfl,e⟩
def jr.L:jr->LT
 |.box cs=>LL gY.L cs
 |.row _ _ ts=>.ty (.list ts)
 |.kt ts=>.dl ts
def jr.un (ln:Nat->Nat):(s:jr)->s.L.D->SB
 |.box cs,x=>.box (vh (gY.un ln) cs x)
 |.row gr m ts,x=>.row gr m ts x
 |.kt ts,x=>.kt ts x
def Mode.beq:Mode->Mode->Bool
 |.live,.live=>true
 |.bi,.bi=>true
 |.bh,.bh=>true
 |_,_=>false
theorem Mode.beq_eq {a b:Mode} (h:Mode.beq a b=true):a=b:=by cases a<;>cases b<;>first|rfl|cases h
def jr.flat (ln:Nat->Nat) (s:jr) (b:Option SB) (k:s.L.D->Option ρ):Option ρ:=
 match s,b with
 |.box cs,some (.box vs)=>wY (gY.flat ln) cs vs k
 |.row gr m ts,some (.row cq m' us xs)=>fH (cq==gr) (fH (Mode.beq m' m) (match CW us ts xs with
  |some y=>k y
  |none=>none))
 |.kt ts,some (.kt us x)=>match Ty.wP us ts x with
  |some y=>k y
  |none=>none
 |_,_=>none
theorem aj1 {us ts:List Ty} {x:Ty.DL us} {y:Ty.DL ts} (h:Ty.wP us ts x=some y):SB.kt us x=SB.kt ts y:=by grind [Ty.wP]
theorem aud {us ts:List Ty} {xs:List (Ty.DL us)} {ys:List (Ty.DL ts)} (h:CW us ts xs=some ys) (a:Bool) (m:Mode):SB.row a m us xs=SB.row a m ts ys:=by grind [CW]
theorem jr.vG {c:Nat->Nat} (s:jr) (b:Option SB) (k:s.L.D->Option ρ) (r:ρ) (h:s.flat c b k=some r):∃x,b=some (s.un c x)/\k x=some r:=by cases s with|box cs=>(cases b with|none=>cases h|some b=>(cases b<;>simp only[jr.flat] at h<;>first|(cases h;done)|skip);obtain⟨x,g,f⟩:=Dc (un:=gY.un c) (fun a b k r=>gY.vG a b k r) h;subst g;replace h:=f;exact⟨x,rfl,h⟩)|row gr m ts=>(cases b with|none=>cases h|some b=>(cases b<;>simp only[jr.flat] at h<;>first|(cases h;done)|skip);have e:=(cR h).1;replace h:=(cR h).2;have d:=(cR h).1;replace h:=(cR h).2;split at h;rename_i y hy;refine⟨y,?_,h⟩;rw[eq_of_beq e,Mode.beq_eq d,aud hy];rfl;cases h)|kt ts=>cases b with|none=>cases h|some b=>(cases b<;>simp only[jr.flat] at h<;>first|(cases h;done)|skip);split at h;rename_i y hy;refine⟨y,?_,h⟩;rw[aj1 hy];rfl;cases h
end
def qY:List (Nat×SV)->Nat->SV
 |[]=>fun _=>.one .cj
 |p::l=>aN (qY l) p.1 p.2
def oL:List (Nat×Option SB)->Nat->Option SB
 |[]=>fun _=>none
 |p::l=>aN (oL l) p.1 p.2
def KA:List (Nat×jr)->Nat->Bool
 |[]=>fun _=>false
 |p::l=>aN (KA l) p.1 true
def xF (h:Nat->Option SB) (n:Nat):Nat:=
 match h n with
 |some (.row _ _ ts xs)=>aa (α:=Ty.DL ts) xs
 |_=>0
abbrev oG.eL (sh:oG):LT:=LL (fun p:Nat×mf=>p.2.L) sh.env
abbrev oG.hL (sh:oG):LT:=LL (fun p:Nat×jr=>p.2.L) sh.heap
def oG.L (sh:oG):LT:=LT.sp sh.eL sh.hL
def SU (ln:Nat->Nat) (l:List (Nat×mf)) (x:(LL (fun p:Nat×mf=>p.2.L) l).D):List (Nat×SV):=
 vh (L:=fun p:Nat×mf=>p.2.L) (fun p y=>(p.1,p.2.un ln y)) l x
def Eh (ln:Nat->Nat) (l:List (Nat×jr)) (x:(LL (fun p:Nat×jr=>p.2.L) l).D):List (Nat×Option SB):=
 vh (L:=fun p:Nat×jr=>p.2.L) (fun p y=>(p.1,some (p.2.un ln y))) l x
def xu:(l:List (Nat×jr))->(LL (fun p:Nat×jr=>p.2.L) l).D->Nat->Nat
 |[],_=>fun _=>0
 |(n,.box cs)::l,x=>aN (xu l (LT.yZ _ _ x).2) n 0
 |(n,.kt ts)::l,x=>aN (xu l (LT.yZ (LT.dl ts) _ x).2) n 0
 |(n,.row gr m ts)::l,x=>aN (xu l (LT.yZ (LT.ty (.list ts)) _ x).2) n (aa (α:=Ty.DL ts) (LT.yZ (LT.ty (.list ts)) _ x).1)
theorem QQ (a:Nat->Nat):∀(l:List (Nat×jr)) (x:(LL (fun p:Nat×jr=>p.2.L) l).D),xu l x=xF (oL (Eh a l x))
 |[],_=>rfl
 |(n,.box cs)::l,x=>by funext m;simp only[xu,Eh,vh,oL,xF];by_cases hm:m=n;subst hm;simp only[dd];rfl;simp only[dP _ _ _ _ hm];exact congrFun (QQ a l _) m
 |(n,.kt ts)::l,x=>by funext m;simp only[xu,Eh,vh,oL,xF];by_cases hm:m=n;subst hm;simp only[dd];rfl;simp only[dP _ _ _ _ hm];exact congrFun (QQ a l _) m
 |(n,.row gr mo ts)::l,x=>by funext m;simp only[xu,Eh,vh,oL,xF];by_cases hm:m=n;subst hm;simp only[dd];rfl;simp only[dP _ _ _ _ hm];exact congrFun (QQ a l _) m
def oG.un (sh:oG) (x:sh.L.D):ak:=
 {env:=qY (SU (xu sh.heap (LT.yZ sh.eL sh.hL x).2) sh.env (LT.yZ sh.eL sh.hL x).1)
  h:=oL (Eh (xu sh.heap (LT.yZ sh.eL sh.hL x).2) sh.heap (LT.yZ sh.eL sh.hL x).2)
  used:=fun n=>zau aY n||KA sh.heap n}
def wZ (n:Nat):List (Nat×jr)->Bool
 |[]=>false
 |p::l=>match zav n p.1 with
  |true=>true
  |false=>wZ n l
section
variable {ρ:Type}
def ac8 (ln:Nat->Nat) (p:Nat×mf) (v:Nat×SV) (k:p.2.L.D->Option ρ):Option ρ:=dq v.1 p.1 (p.2.flat ln v.2 k)
def ac9 (ln:Nat->Nat) (p:Nat×jr) (b:Nat×Option SB) (k:p.2.L.D->Option ρ):Option ρ:=dq b.1 p.1 (p.2.flat ln b.2 k)
def O9 (σ:ak) (hp:List (Nat×jr)):List Nat->Bool
 |[]=>true
 |n::kh=>(match wZ n hp with|true=>σ.used n|false=>(match σ.used n with|true=>zau aY n|false=> !(zau aY n))&&(σ.h n).isNone)&&O9 σ hp kh
def OU (kh:List Nat):List (Nat×jr)->Bool
 |[]=>true
 |p::l=>kh.contains p.1&&OU kh l
def oG.flat (sh:oG) (kh:List Nat) (σ:ak) (k:sh.L.D->Option ρ):Option ρ:=
 fH (O9 σ sh.heap kh&&OU kh sh.heap)
  (wY (ac8 (xF σ.h)) sh.env (sh.env.map fun p=>(p.1,σ.env p.1)) fun xe=>
   wY (ac9 (xF σ.h)) sh.heap (sh.heap.map fun p=>(p.1,σ.h p.1)) fun xh=>k (LT.Om sh.eL sh.hL xe xh))
end
theorem alK (l:List (Nat×mf)) (f:Nat->SV) (hf:∀s,s∉l.map (·.1)->f s=.one .cj):qY (l.map fun p=>(p.1,f p.1))=f:=by
 have:∀(l:List (Nat×mf)) s,qY (l.map fun p=>(p.1,f p.1)) s=if s∈l.map (·.1) then f s else .one .cj:=by
  intro l s;induction l with
  |nil=>rfl
  |cons p l a=>
   simp only[By,qY,mZ,a,zaa]
   grind
 grind
theorem anL (l:List (Nat×jr)) (f:Nat->Option SB) (hf:∀s,s∉l.map (·.1)->f s=none):oL (l.map fun p=>(p.1,f p.1))=f:=by
 have:∀(l:List (Nat×jr)) s,oL (l.map fun p=>(p.1,f p.1)) s=if s∈l.map (·.1) then f s else none:=by
  intro l s;induction l with
  |nil=>rfl
  |cons p l a=>
   simp only[By,oL,mZ,a,zaa]
   grind
 grind
theorem aev (n:Nat) (l:List (Nat×jr)):wZ n l=true↔n∈l.map (·.1):=by induction l with|nil=>simp[wZ]|cons p l ih=>simp only[wZ,By,zaa];cases h:zav n p.1 with|true=>simp_all|false=>grind [zaf]
theorem awZ (n:Nat) (l:List (Nat×jr)):KA l n=wZ n l:=by induction l with|nil=>rfl|cons p l a=>simp only[KA,wZ,mZ,a];by_cases h:n=p.1;simp_all;have:zav n p.1=false:=(by cases hb:zav n p.1 with|true=>simp_all|false=>rfl);simp[h,this]
theorem Vc {σ:ak} {a:List (Nat×jr)}:∀{b:List Nat},O9 σ a b=true->∀n∈b,σ.used n=(zau aY n||wZ n a)/\(wZ n a=false->σ.h n=none)
 |[],_,n,hn=>by cases hn
 |m::b,h,n,hn=>by simp only[O9,BY] at h;rcases zaa.1 hn with c|hn;subst c;(cases hh:wZ n a with|true=>simp_all|false=>rw[hh] at h;simp only[BY,Option.isNone_iff_eq_none] at h;grind);exact Vc h.2 n hn
theorem abq {a:List Nat}:∀{l:List (Nat×jr)},OU a l=true->∀n∈l.map (·.1),n∈a
 |[],_,n,hn=>by cases hn
 |p::l,h,n,hn=>by simp only[OU,BY] at h;simp only[By,zaa] at hn;rcases hn with rfl|hn;simpa using h.1;exact abq h.2 n hn
theorem oG.vG {ρ:Type} {c:oG} {f:List Nat} {σ:ak} {k:c.L.D->Option ρ} {r:ρ} (h:c.flat f σ k=some r) (t:∀s,s∉c.ke->σ.env s=.one .cj) (hh:∀n,n∉f->σ.h n=none/\σ.used n=zau aY n):∃x,σ=c.un x/\k x=some r:=by unfold oG.flat at h;have g:=(cR h).1;replace h:=(cR h).2;simp only[BY] at g;obtain⟨i,q,h⟩:=Dc (L:=fun p:Nat×mf=>p.2.L) (un:=fun p y=>(p.1,p.2.un (xF σ.h) y)) (fun a b k r h=>by unfold ac8 at h;obtain⟨v,h⟩:=bn h;obtain⟨x,w,h⟩:=mf.vG _ _ _ _ h;grind) h;obtain⟨d,u,h⟩:=Dc (L:=fun p:Nat×jr=>p.2.L) (un:=fun p y=>(p.1,some (p.2.un (xF σ.h) y))) (fun a b k r h=>by unfold ac9 at h;obtain⟨v,h⟩:=bn h;obtain⟨x,w,h⟩:=jr.vG _ _ _ _ h;grind) h;have o:σ.env=qY (SU (xF σ.h) c.env i):=(by unfold SU;rw[<-q];exact(alK c.env σ.env t).symm);have m:σ.h=oL (Eh (xF σ.h) c.heap d):=(by unfold Eh;rw[<-u];refine(anL c.heap σ.h fun n hn=>?_).symm;by_cases e:n∈f;refine(Vc g.1 n e).2 ?_;(cases hb:wZ n c.heap with|true=>exact absurd ((aev n c.heap).1 hb) hn|false=>rfl);simp_all);have j:xu c.heap d=xF σ.h:=(by rw[QQ (xF σ.h),<-m]);have l:σ.used=fun n=>zau aY n||KA c.heap n:=(by funext n;rw[awZ];by_cases e:n∈f;exact(Vc g.1 n e).1;rw[(hh n e).2];cases hb:wZ n c.heap with|true=>exact absurd (abq g.2 n ((aev n c.heap).1 hb)) e|false=>grind);refine⟨LT.Om c.eL c.hL i d,?_,h⟩;have:c.un (LT.Om c.eL c.hL i d)={env:=qY (SU (xu c.heap d) c.env i),h:=oL (Eh (xu c.heap d) c.heap d),used:=fun n=>zau aY n||KA c.heap n}:=(by simp only[oG.un,LT.aiJ]);rw[this,j,<-o,<-m,<-l]
end Go.Am
