/- AmQ, AmG, AmH, AmI, AmJ, Am24, Am25, Am26, Am27, Am28, Am29, Am30, AmW, S0, S1, S2, S3, S4, S4c, S5: parts of the proof. No condition. -/
import Derived.Test.YtfhgbfllljehhaaAmP
set_option linter.unusedVariables false
set_option linter.unusedSimpArgs false
open Bool renaming and_eq_true->co,false_eq_true->zaf,not_eq_true'->zav,or_eq_true->zaB,and_true->zaO,true_and->zbh,or_false->zbj
open List renaming map_cons->wt,length_map->AN,map->AT,getElem?_map->By,mem_of_getElem?->BY,getElem?_eq_getElem->GB,getElem?_eq_some_iff->If,filterMap_cons->IS,all_eq_true->IT,eq_nil_of_length_eq_zero->OF,replicate->Pe,getD_eq_getElem?_getD->zab,mem_cons->zac,mem_map->zad,getElem?_eq_none->zah,mem_append->zai,map_set->zaj,map_congr_left->zal,all_cons->zao,map_map->zaq,getElem?_cons_zero->zas,map_take->zat,pairwise_append->zaA,take->zaC,length->zaE,getElem?_append_right->zaF,pairwise_cons->zaG,map_replicate->zaH,pairwise_iff_getElem->zaI,getElem?_append_left->zaJ,getElem?_eq_none_iff->zaK,ext_getElem?->zaL,map_drop->zaN,cons_append->zaP,take_of_length_le->zaT,take_append_drop->zaU,mem_cons_of_mem->zaY,mem_range->zaZ,drop_zero->za0,getD_cons_zero->za1,getElem_of_mem->za2,length_append->za4,getElem?_ofFn->za5,all_nil->zbb,length_cons->zbc,map_append->zbf,range->zbg,drop->zbk,map_nil->zbl
open Option renaming map_some->AI,map_none->Pd,bind_some->zam,isSome_map->zaM,map_eq_some_iff->zaS,map->zaX
open Nat renaming eq_of_beq_eq_true->IN,ble_eq_true_of_le->zag,add_sub_cancel_left->zak,beq_refl->zan,le_refl->zau,ble->zaw,beq->zax,le_of_ble_eq_true->zaz,le_add_right->zaQ,sub_zero->zaV,lt_or_gt_of_ne->za3,lt_or_ge->za7,sub_self->za8,add_zero->za9,zero_add->zba,zero_le->zbe
open Option.some renaming injEq->zaa
open Array renaming getD_eq_getD_getElem?->zae,getElem?_eq_some_iff->zap,replicate->zar,getElem?_append->zay,getElem?_eq_none->zaR,ext'->zbm
open List.cons renaming injEq->zaD
open Classical renaming choose_spec->zaW
open List.Pairwise renaming nil->za6
open Prod renaming ext->zbd
open Function renaming comp->zbi
namespace Go.Am
def FJ (x y:bO):Bool:=x.op.eT==0||y.op.eT==0||(decide (x.op.eT<=1)&&decide (y.op.eT<=1))
def FM (x y:bO):Bool:=
 (match x.dst with|some d=>y.vp d&&(match y.dst with|some e=>e !=d|none=>true)|none=>true)&&
 (match y.dst with|some d=>x.vp d|none=>true)&&x.rS&&y.rS
theorem aht {T:aQ} {x y:bO} {σ σ1 σ2:St} (W:Wf σ) (M:FM x y=true) (A:FJ x y=true\/FU (x.fp σ) (y.fp σ1)=true) (d:ez T x σ=some σ1) (g:ez T y σ1=some σ2): ∃τ,ez T y σ=some τ/\ez T x τ=some σ2/\y.fp σ1=y.fp σ/\x.fp τ=x.fp σ:=by simp only[FM,co] at M;obtain⟨⟨⟨j,B⟩,z⟩,u⟩:=M;rw[C3] at d g;cases ex:nY x σ.env with|none=>rw[ex] at d;cases d|some c=>rw[ex] at d;have d:exec T x.dst c σ=some σ1:=d;have r:c=x.op\/c=.mv (.k (.bH [])):=J8 ex;have C:∀sz p v,c=.store sz p v->x.dst=none:=(by intro sz p v i;rcases r with rfl|rfl;simp only[bO.rS,co,i] at z;simpa using z.2;cases i);have R:=xV C d;have U:∀s w,y.guard=some (s,w)->x.dst≠some s:=(by intro s w f hd;rw[hd] at j;simp[bO.vp,f] at j);have L:∀s w,x.guard=some (s,w)->y.dst≠some s:=(by intro s w f hd;rw[hd] at B;simp[bO.vp,f] at B);have N:nY y σ1.env=nY y σ.env:=FW fun s w f=>(by rw[R];exact sE (U s w f));rw[N] at g;cases ey:nY y σ.env with|none=>rw[ey] at g;cases g|some b=>rw[ey] at g;have g:exec T y.dst b σ1=some σ2:=g;have D:b=y.op\/b=.mv (.k (.bH [])):=J8 ey;have m:∀sz p v,b=.store sz p v->y.dst=none:=(by intro sz p v i;rcases D with rfl|rfl;simp only[bO.rS,co,i] at u;simpa using u.2;cases i);have J:∀a∈c.args,a.flat=true:=(by rcases r with rfl|rfl;simp only[bO.rS,co,IT] at z;exact z.1;intro a q;simp[aV.args] at q;subst q;rfl);have I:∀a∈b.args,a.flat=true:=(by rcases D with rfl|rfl;simp only[bO.rS,co,IT] at u;exact u.1;intro a q;simp[aV.args] at q;subst q;rfl);have F:∀n,x.dst=some n->MO.t n∉b.args:=(by intro n hd;rcases D with rfl|rfl;rw[hd] at j;simp only[co] at j;exact bO.LI j.1;simp[aV.args]);have G:∀n,y.dst=some n->MO.t n∉c.args:=(by intro n hd;rcases r with rfl|rfl;rw[hd] at B;exact bO.LI B;simp[aV.args]);have O:∀n,x.dst=some n->y.dst≠some n:=(by intro n hd i;rw[hd,i] at j;simp at j);have o:y.fp σ1=b.fp σ1:=(by unfold bO.fp;rw[N,ey]);have K:y.fp σ=b.fp σ:=(by unfold bO.fp;rw[ey]);have l:x.fp σ=c.fp σ:=(by unfold bO.fp;rw[ex]);have H:∀τ,exec T y.dst b σ=some τ->x.fp τ=c.fp τ:=(by intro τ h;unfold bO.fp;rw[FW (e:=σ.env) (fun s w f=>by rw[xV m h];exact sE (L s w f)),ex]);have fz:(∃τ,exec T y.dst b σ=some τ/\exec T x.dst c τ=some σ2/\b.fp σ1=b.fp σ/\c.fp τ=c.fp σ)->∃τ,ez T y σ=some τ/\ez T x τ=some σ2/\y.fp σ1=y.fp σ/\x.fp τ=x.fp σ:=(by rintro⟨τ,h,E,V,Q⟩;refine⟨τ,?_,?_,?_,?_⟩;rw[C3,ey];exact h;rw[C3,FW (e:=σ.env) (fun s w f=>by rw[xV m h];exact sE (L s w f)),ex];exact E;rw[o,K,V];rw[H τ h,l,Q]);apply fz;rcases A with P|A;have S:c.eT=0\/b.eT=0\/(c.eT<=1/\b.eT<=1):=(by rcases r with rfl|rfl;rcases D with rfl|rfl;simp only[FJ,zaB,beq_iff_eq,co,decide_eq_true_eq,or_assoc] at P;exact P;exact .inr (.inl rfl);exact .inl rfl);obtain⟨τ,h,E⟩:=V1 W O F G J I C m S d g;refine⟨τ,h,E,Ye W F I C (by omega) d,Ye W G J m (by omega) h⟩;rw[o,l] at A;exact ahs W O F G J I C m A d g
def Fv (T:aQ) (ms:List bO) (F:Nat->Option FP):List Nat->St->St->Prop
 |[],σ,fJ=>σ=fJ
 |i::L,σ,fJ=>∃m σ1,ms[i]? =some m/\F i=m.fp σ/\ez T m σ=some σ1/\Fv T ms F L σ1 fJ
def U6 (F:Nat->Option FP) (ms:List bO) (i j:Nat) (m:bO):Prop:=∃mj,ms[j]? =some mj/\FM mj m=true/\(FJ mj m=true\/FU (F j) (F i)=true)
structure NC (F:Nat->Option FP) (ops:Array Oper) (ms:List bO):Prop where
 back:∀(i:Nat) (o:Oper),ops[i]? =some o->∀e∈o.after,Region.binds .any e=true->e.on<i
 pair:∀(i j:Nat) (o:Oper) (m:bO),ops[i]? =some o->ms[i]? =some m->j<i->ub ops i j\/U6 F ms i j m
section
variable {B:Nat} {E:Ex} {w0 w w':World} {G G':Gh} {N:Nat}
variable {P:Program} {T:aQ} {o:Oper} {mo:bO} {a:Act} {σ σ':St} {Q:Exit->Act->World->Prop} {ops:Array Oper}
theorem ac9 (q:m4 P T) {ms:List bO} {F:Nat->Option FP} (n:∀(i:Nat) (m:bO),ms[i]? =some m->∃o,ops[i]? =some o/\qE P N ops o m=true) {i:Nat} {c:bO} (h:ms[i]? =some c) {post:List Nat} {f:St}: ∀{pre:List Nat} {σ:St},Jw B E w0 N σ->Fv T ms F (pre++i::post) σ f->(∀j∈pre,U6 F ms i j c)-> ∃τ,F i=c.fp σ/\ez T c σ=some τ/\Fv T ms F (pre++post) τ f
 |[],σ,hr,hx,hc=>by obtain⟨m,σ1,b,M,x,z⟩:=hx;rw[h] at b;injection b with b;subst b;exact⟨σ1,M,x,z⟩
 |j::pre,σ,hr,hx,hc=>by obtain⟨l,σ1,e,s,g,K⟩:=hx;obtain⟨mj',d,I,t⟩:=hc j (by simp);rw[e] at d;injection d with d;subst d;obtain⟨oj,_,y⟩:=n j l e;obtain⟨L,p,A,v⟩:=ac9 q n h (acV hr q y g) K (fun k J=>hc k (by simp[J]));obtain⟨a,w,G,r⟩:=hr;rw[s,p] at t;obtain⟨τ,H,u,D,C⟩:=aht r.wf I t g A;exact⟨τ,by rw[p,D],H,l,L,e,by rw[C];exact s,u,v⟩
theorem asZ (V:m4 P T) {ms:List bO} {F:Nat->Option FP} (W:∀(i:Nat) (m:bO),ms[i]? =some m->∃o,ops[i]? =some o/\qE P N ops o m=true) (hlen:ms.length=ops.size) (hd:NC F ops ms) {D:St} (hQ:∀a w G,R B E w0 N D a w G->Q .normal a w): ∀(s:Nat) (L:List Nat) (b:Array Bool) (σ:St) (a:Act) (w:World) (G:Gh),R B E w0 N σ a w G->Fv T ms F L σ D->L.Pairwise (·<·)->L.length<=s->b.size=ops.size-> (∀j,j∈L↔b.getD j true=false)->NB ops b->wpAny P .any ops Q s b a w:=by(have first:∀(L:List Nat) (b:Array Bool),L.Pairwise (·<·)->b.size=ops.size->(∀j,j∈L↔b.getD j true=false)->Region.ready .any ops b=[]->L=[]:=by intro L b v u hL hr;cases L with|nil=>rfl|cons j L=>exfalso;have A:=(hL j).1 (by simp);have O:j<ops.size:=(by rw[<-u];rcases za7 j b.size with h|h;exact h;simp[zaR h] at A);have c:ops[j]? =some ops[j]:=Array.getElem?_eq_getElem O;have:j∈Region.ready .any ops b:=(by rw[mem_ready];refine⟨A,_,c,fun e d g=>?_⟩;have cm:=hd.back j _ c e d g;have n9:e.on∉j::L:=(by intro hm;cases hm with|head=>omega|tail _ hm=>have:=(zaG.1 v).1 _ hm;omega);have Z:b.getD e.on true≠false:=fun h=>n9 ((hL e.on).2 h);have z:e.on<b.size:=(by omega);simp[z] at Z⊢;exact Z);rw[hr] at this;cases this);intro s;induction s with|zero=>intro L b σ a w G r hx v hl u hL I;have M:L=[]:=OF (by omega);subst M;have hx:σ=D:=hx;subst hx;refine⟨?_,hQ _ _ _ r⟩;(cases hr:Region.ready .any ops b with|nil=>rfl|cons i l=>have hm:i∈Region.ready .any ops b:=(by rw[hr];simp);have:=(hL i).2 (mem_ready.1 hm).1;cases this)|succ s ih=>intro L b σ a w G r hx v hl u hL I;refine⟨fun hr=>?_,fun i hi=>?_⟩;(have M:=first L b v u hL hr);subst M;have hx:σ=D:=hx;subst hx;exact hQ _ _ _ r;obtain⟨QE,oi,f,Gr⟩:=mem_ready.1 hi;have GG:i∈L:=(hL i).2 QE;obtain⟨pre,post,rfl⟩:=List.append_of_mem GG;have GH:i<ops.size:=(zap.1 f).1;have K:ms[i]? =some ms[i]:=GB (by omega);obtain⟨o',H,uQ⟩:=W i _ K;rw[f] at H;injection H with H;subst H;have p:=zaA.1 v;obtain⟨τ,t0,t1,t2⟩:=ac9 (ops:=ops) V W K ⟨a,w,G,r⟩ hx (fun j A=>by have t:j<i:=p.2.2 j A i (by simp);rcases hd.pair i j oi _ f K t with Qk|h;have n:=VB I Qk (fun o c e d g=>by rw[f] at c;injection c with c;subst c;have n:=Gr e d g;have cm:=hd.back i _ f e d g;have z:e.on<b.size:=(by omega);simp[z] at n⊢;exact n);have h2:=(hL j).1 (by simp[A]);rw[n] at h2;cases h2;exact h);have Y:∀C w',Nx B E w0 N τ C w'->wpAny P .any ops Q s (b.setIfInBounds i true) C w':=(by rintro C w' ⟨G',r'⟩;refine ih (pre++post) _ τ C w' G' r' t2 ?_ (by simp at hl⊢;omega) (by simpa using u) (fun j=>?_) (fun k o c X e d g=>?_);rw[zaA];exact⟨p.1,(zaG.1 p.2.1).2,fun x hx y hy=>p.2.2 x hx y (by simp[hy])⟩;by_cases t:j=i;subst t;have O:j<b.size:=(by omega);simp only[zai];constructor;rintro(h|h);have:=p.2.2 j h j (by simp);omega;have:=(zaG.1 p.2.1).1 j h;omega;intro h;simp[O] at h;rw[getD_set_ne true (Ne.symm t),<-hL j];simp[t];have GM:∀q,b.getD q true=true->(b.setIfInBounds i true).getD q true=true:=(by intro q hq;by_cases U:q=i;subst U;have:q<b.size:=(by omega);simp[this];rw[getD_set_ne true (Ne.symm U)];exact hq);by_cases S:k=i;subst S;rw[f] at c;injection c with c;subst c;have n:=Gr e d g;have cm:=hd.back k _ f e d g;have z:e.on<b.size:=(by omega);refine GM _ ?_;simp[z] at n⊢;exact n;rw[getD_set_ne true (Ne.symm S)] at X;exact GM _ (I k o c X e d g));unfold wpOp;rw[f];simp only;rcases F7 (Q:=Q) r V uQ t1 with⟨J,h⟩|⟨J,h⟩;rw[ak J];exact .inl (Oper.wp_mono Y h);rw[aq (by simp[J])];exact Y _ _ h
def JQ (ps:List (Nat×Nat)) (ops:List Oper) (ms:List bO):Bool:=
 (fun ks:List Nat=>(zbg ops.length).all fun i=>match ops[i]?,ms[i]? with
  |some o,some m=>(o.after.toList.all fun e=> !Region.binds .any e||decide (e.on<i))&&
   (zbg i).all fun j=>(ks.getD i 0).testBit j||(match ms[j]? with|some mj=>FM mj m&&(FJ mj m||ps.contains (j,i))|none=>false)
  |_,_=>false) (Eb ops [])
theorem ahb {ps:List (Nat×Nat)} {ms:List bO} {p:List (Option FP)} (h:JQ ps ops.toList ms=true) (u:wX ps p=true):NC (fun i=>p.getD i none) ops ms:=by
  simp only[JQ,IT,zaZ] at h;have n:∀(i:Nat) (o:Oper),ops[i]? =some o->∃m,ms[i]? =some m/\(o.after.toList.all fun e=> !Region.binds .any e||decide (e.on<i))=true/\
        ∀j,j<i->(((Eb ops.toList []).getD i 0).testBit j||(match ms[j]? with|some d=>FM d m&&(FJ d m||ps.contains (j,i))|none=>false))=true:=by
    intro i o c;have r:i<ops.toList.length:=by simpa using(zap.1 c).1
    have b:=h i r;have s:ops.toList[i]? =some o:=by simpa using c
    rw[s] at b;cases hm:ms[i]? with
    |none=>rw[hm] at b;cases b
    |some m=>
     rw[hm] at b;simp only[co,IT,zaZ] at b;exact⟨m,rfl,by rw[IT];exact b.1,b.2⟩
  refine⟨fun i o c e q g=>?_,fun i j o m c hm w=>?_⟩
  · obtain⟨m,_,v,_⟩:=n i o c;have:=IT.1 v e (Array.mem_toList_iff.2 q);simp[g] at this;exact this
  · obtain⟨m',f,_,t⟩:=n i o c;rw[hm] at f;injection f with f;subst f;have:=t j w;rw[zaB] at this;rcases this with a|a
    · exact .inl (SD ops.toList [] [] rfl rfl (by intro i k g;simp at g) i j a)
    · cases Dy:ms[j]? with
      |none=>rw[Dy] at a;cases a
      |some d=>
       rw[Dy] at a;simp only[co,zaB] at a;refine .inr ⟨d,Dy,a.1,?_⟩;rcases a.2 with l|l
       · exact .inl l
       · refine .inr ?_;have:=IT.1 u (j,i) (by simpa using l);exact this
theorem WQ {ms:List bO}:∀(post pre:List bO) (σ c:St) (b a:List (Option FP)),ms=pre++post->a.length=pre.length->nq T post a σ=some (b,c)-> a=b.take a.length/\Fv T ms (fun i=>b.getD i none) (List.range' pre.length post.length) σ c
 |[],pre,σ,c,b,a,he,hl,hx=>by simp only[nq] at hx;injection hx with hx;injection hx with d e;subst d e;exact⟨by simp,rfl⟩
 |m::post,pre,σ,c,b,a,he,hl,hx=>by simp only[nq] at hx;split at hx;rename_i σ1 g;obtain⟨d,e⟩:=WQ (ms:=ms) post (pre++[m]) σ1 c b (a++[m.fp σ]) (by simp[he]) (by simp[hl]) hx;have f:b[a.length]? =some (m.fp σ):=(by have:(b.take (a++[m.fp σ]).length)[a.length]? =some (m.fp σ):=(by rw[<-d];simp);rw[List.getElem?_take] at this;split at this;exact this;cases this);have h:a=b.take a.length:=(by have:=congrArg (zaC a.length) d;simpa[List.take_take] using this);refine⟨h,m,σ1,?_,?_,g,?_⟩;rw[he,zaF (zau _),za8];rfl;show b.getD pre.length none=_;rw[<-hl,zab,f];rfl;simpa using e;cases hx
theorem aqM (g:m4 P T) (hm:P.follows .mixedOrders=true) {id:Nat} {ps:List (Nat×Nat)} {ms:List bO} {c:List (Option FP)} (d:jW P N ops ops.toList ms=true) (hd:JQ ps ops.toList ms=true) (hx:nq T ms [] σ=some (c,σ')) (n:wX ps c=true) (r:R B E w0 N σ a w G) (e:∀a w G,R B E w0 N σ' a w G->Q .normal a w):(Code.region id ops true).wp P Q a w:=by obtain⟨s,l⟩:=Pb d;have b:ms.length=ops.size:=(by simpa using s);refine wp_region_any hm (asZ (B:=B) (E:=E) (w0:=w0) (N:=N) g (fun i m h=>by obtain⟨o,f,t⟩:=l i m h;exact⟨o,by simpa using f,t⟩) b (ahb hd n) e ops.size (zbg ops.size) _ σ a _ G (r.drawn _) ?_ ?_ (by simp) (by simp) (fun j=>?_) (fun k o u p=>?_));have:=(WQ (T:=T) (ms:=ms) ms [] σ σ' c [] rfl rfl hx).2;simp only[List.length_nil,b,<-List.range_eq_range'] at this;exact this;exact List.pairwise_lt_range;rw[zaZ];constructor;intro h;simp[h];intro h;rcases za7 j ops.size with h'|h';exact h';simp[zaR (show(zar ops.size false).size<=j by simpa using h')] at h;exfalso;have q:k<ops.size:=(zap.1 u).1;simp[q] at p
end
def ao3:aV:=.mv (.k (.one .bC))
def MO.isNone:aV->Bool
 |.mv (.k (.one .bC))=>true
 |_=>false
def MO.DV (s:Nat):MO->Bool
 |.t n=>n==s
 |_=>false
def vB (sp:uo) (m:bO):Bool:=
 (match m.guard with|none=>true|some _=>false)&&(match m.op with|.mv _|.nz _ _ _|.nZ _ _=>true|_=>false)&&
 (match m.dst with|none=>true|some s=>s !=sp.d&& !(sp.ml.DV s)&& !(sp.my.DV s))
def CJ (P:Program) (N:Nat) (sp:uo) (o:Oper) (m:bO):Bool:=
 decide (m.dst=some sp.d)&&decide (o.dst=some sp.d)&&decide (sp.d<N)&&(match m.guard with|none=>true|some _=>false)&&(match o.guard with|none=>true|some _=>false)&&
 MO.isNone m.op&& !(sp.ml.DV sp.d)&& !(sp.my.DV sp.d)&&
 (match o.op with
  |.call c=>match c.callee,c.args.toList,c.argTypes.toList with
   |.builtin .append,[x,y],[t,t']=>(t==t')&&bU x sp.ml&&bU y sp.my&&tg P t sp.sz (fun i z=>(i.bytes==sp.by_)&&decide (0<sp.by_)&&(z.cells.size==sp.sz))
   |_,_,_=>false
  |_=>false)
def CN (P:Program) (sp:uo) (o:Oper) (m:bO):Bool:=
 decide (m.dst=none)&&decide (o.dst=none)&&(match m.guard with|none=>true|some _=>false)&&(match o.guard with|none=>true|some _=>false)&&MO.isNone m.op&&
 (match o.op with
  |.store t x (.tmp s)=>bU x sp.mx&&(s==sp.d)&&JT P t 1
  |_=>false)
section
variable {B:Nat} {E:Ex} {w0 w w':World} {G G':Gh} {N:Nat} {h h':Nat->Option ar}
variable {P:Program} {T:aQ} {o:Oper} {m:bO} {a:Act} {σ σ':St} {Q:Exit->Act->World->Prop} {ops:Array Oper} {sp:uo}
theorem MO.K4 {op:aV} (h:MO.isNone op=true):op=ao3:=by unfold MO.isNone at h;split at h;rfl;cases h
theorem MO.K5 {s:Nat} {x:MO} (h:x.DV s=false):x≠ .t s:=by rintro rfl;simp[MO.DV] at h
theorem Kj {d:Nat} {v:ao} {x:MO} (h:x≠ .t d):(σ.put (some d) v).ev x=σ.ev x:=by cases x with|t n=>show aI σ.env d v n=σ.env n;exact cQ _ _ _ _ (fun e=>h (by rw[e]))|k v=>rfl
theorem afL (c:vB sp m=true) (hx:ez T m σ=some σ'):σ'.h=σ.h/\σ'.ev sp.ml=σ.ev sp.ml/\σ'.ev sp.my=σ.ev sp.my:=by obtain⟨dst,op,guard⟩:=m;simp only[vB,co] at c;obtain⟨⟨e,d⟩,b⟩:=c;cases guard with|some g=>cases e|none=>simp only[ez] at hx;have a:∀x,σ'=σ.put dst x->σ'.h=σ.h/\σ'.ev sp.ml=σ.ev sp.ml/\σ'.ev sp.my=σ.ev sp.my:=(by rintro x rfl;cases dst with|none=>exact⟨rfl,rfl,rfl⟩|some s=>simp only[co,zav] at b;exact⟨rfl,Kj (MO.K5 b.1.2),Kj (MO.K5 b.2)⟩);(cases op<;>simp only at d<;>first|cases d|skip);simp only[exec] at hx;injection hx with hx;exact a _ hx.symm;simp only[exec] at hx;split at hx;split at hx;injection hx with hx;exact a _ hx.symm;cases hx;injection hx with hx;exact a _ hx.symm;injection hx with hx;exact a _ hx.symm;cases hx;simp only[exec] at hx;split at hx;split at hx;injection hx with hx;exact a _ hx.symm;cases hx;split at hx;split at hx;injection hx with hx;exact a _ hx.symm;cases hx;cases hx;split at hx;split at hx;injection hx with hx;exact a _ hx.symm;cases hx;cases hx;cases hx
theorem aiC (r:R B E w0 N σ a w G) (K:vB sp m=true) (J:qE P N ops o m=true) (hx:ez T m σ=some σ'):o.guard=none/\o.wp P a w (Cl B E w0 N a w G o.dst σ') Q:=by simp only[qE,co,decide_eq_true_eq] at J;obtain⟨⟨⟨L,M⟩,y⟩,b⟩:=J;have c:∀n,o.dst=some n->n<N:=fun n hn=>(by rw[hn] at M;simpa using M);obtain⟨dst,op,guard⟩:=m;simp only[vB,co] at K;obtain⟨⟨U,O⟩,h3⟩:=K;cases guard with|some g=>cases U|none=>have p:o.guard=none:=(by unfold O7 at y;cases p:o.guard with|none=>rfl|some g=>rw[p] at y;cases y);refine⟨p,?_⟩;simp only[ez] at hx;simp only at L;subst L;obtain⟨atm,C,oty,atn,atl,ogd⟩:=o;(cases op<;>simp only at O<;>first|cases O|skip);rename_i x;simp only[exec] at hx;injection hx with hx;subst hx;(cases C<;>simp only[fH] at b<;>first|cases b|skip);exact WK r (.inl rfl) c b;exact WK r (.inr rfl) c b;rename_i off x;(cases C<;>simp only[fH] at b<;>first|cases b|skip);simp only[co] at b;simp only[exec] at hx;split at hx;rename_i n k sz q e;split at hx;rename_i A;injection hx with hx;subst hx;exact PK r rfl c b.1 b.2 (.inl ⟨n,k,sz,q,e,A,rfl⟩);cases hx;rename_i xs q e;injection hx with hx;subst hx;exact PK r rfl c b.1 b.2 (.inr (.inl ⟨xs,q,e,rfl⟩));rename_i xs q j n s len e;injection hx with hx;subst hx;exact PK r rfl c b.1 b.2 (.inr (.inr ⟨xs,q,j,n,s,len,e,rfl⟩));cases hx;rename_i sz x i;(cases C<;>simp only[fH] at b<;>first|cases b|skip);simp only[co] at b;obtain⟨⟨t,v⟩,u⟩:=b;obtain⟨e,ti,z,H,F,k3,I,k5,_⟩:=uB u;simp only[exec] at hx;split at hx;rename_i n s lo len q d h;split at hx;rename_i l;obtain⟨rfl,f,D,A⟩:=l;injection hx with hx;subst hx;exact WI r rfl c t v H F I h f (.inl ⟨n,lo,len,d,D,A,rfl⟩);cases hx;rename_i s xs q d h;split at hx;rename_i l;obtain⟨rfl,f⟩:=l;split at hx;rename_i W V;injection hx with hx;subst hx;exact WI r rfl c t v H F I h f (.inr ⟨xs,W,d,V,rfl⟩);cases hx;cases hx;rename_i n kk aD off s len q d h;split at hx;rename_i s' ys S;split at hx;rename_i l;obtain⟨rfl,f,D⟩:=l;injection hx with hx;subst hx;exact aio r rfl c t v H F I h f D d S;cases hx;cases hx;cases hx
theorem ais (r:R B E w0 N σ a w G) {n k f off sz s:Nat} {xs I:List (List C)} {t:TypeId} {i:TypeInfo} {x:Operand} {mx:MO} (ho:o.op=.store t x (.tmp s)) (hd:o.dst=none) (e8:bU x mx=true)
  (X:P.info? t=some i) (bN:i.size=1) (hp:σ.ev mx=.one (.ptr n k f off)) (hn:σ.h n=some (.row true .live f xs)) (od:off+1=f) (oV:n<aX) (hk:∃e,xs[k]? =some e)
  (yb:Fu B E w G σ.h n k off sz I (a.tmps.getD s undef)):
  o.wp P a w (Nx B E w0 N ((σ.cut n).ef n (.row true .live f (xs.set k ((xs.getD k []).set off (.list sz I)))))) Q:=by
 obtain⟨J,_⟩:=r.ev e8;rw[hp] at J;have cf:σ.h n≠none:=by rw[hn];simp
 obtain⟨p1,p2⟩:=(J.gj (by simp)).1 cf;have hr:=r.hr.row n true .live f xs hn;obtain⟨⟨cur,O,y⟩,l2,l3⟩:=hr.eG p1;obtain⟨q,M,Y,d⟩:=yb;obtain⟨el,L⟩:=hk;have Z:∃pe,(G.g n).px[k]? =some pe/\pe.map PC.er=el:=by
  have j:=L;rw[hr.er,By] at j;cases d:(G.g n).px[k]? with
  |none=>rw[d] at j;cases j
  |some pe=>rw[d] at j;simp at j;exact⟨pe,rfl,j⟩
 obtain⟨pe,A,S⟩:=Z;have wB:pe.length=f:=l2.1 pe (BY A);have l:=PC.kF q;rw[M] at l;have H:(a.eval (.tmp s)).cells.toList=[q.val]:=by
  have W:a.eval (.tmp s)=a.tmps.getD s undef:=rfl;rw[W,M]
  revert l
  cases a.tmps.getD s undef<;>intro l<;>first|rfl|(simp[Value.oneCell'] at l)
 have T:(a.eval (.tmp s)).cells.size=1:=by rw[<-Array.length_toList,H];rfl
 have Av:(G.g n).o+k*f+off+(a.eval (.tmp s)).cells.size<=cur.size:=by
  have z:=l2.2.1 k off (pe[off]'(by omega)) ⟨pe,A,GB _⟩;have:=zW y z;omega
 have rc:=r.cut n;have uW:(σ.cut n).h n=some (.row true .live f xs):=by show(σ.h n).map _=_;rw[hn];rfl
 have oh:Jv B E w G (σ.cut n).h n k off q:=⟨d.e7,d.sep,d.nr,d.own,fun b p m D=>d.name b p m (vZ D),fun b p m U mo sz xs bG D=>d.row b p m U mo sz xs bG (xQ D),d.rest⟩;have r':=rc.nest uW oV (fun s=>ao.CX n (σ.env s)) (fun m cs c hm z=>by
  obtain⟨f9,_,rfl⟩:=Pn (h:=σ.h) hm;obtain⟨V,_,rfl⟩:=zad.1 z;exact ah.CX n V) A od y oh
 have K:=Md (P:=P) (w:=w) (t:=t) (i:=i) (b:=(G.g n).b) (off:=(G.g n).o+k*f+off) (v:=a.eval (.tmp s)) (cur:=cur) (e:=O) X (by rw[bN,T]) y Av (fun u F=>by
  rw[H] at F;simp at F;subst F;exact PC.kF q)
 rw[H] at K;have ko:xs.getD k []=pe.map PC.er:=by rw[zab,L,S];rfl
 rw[ko,<-Y];refine Nu (w':=f7 w (G.g n).b ((G.g n).o+k*f+off) [q.val] cur) ?_ (by rw[hd];exact⟨_,r'⟩);simp only[execOp,ho,p2];simp[Instr.storeAt,Instr.sureAddr,K]
structure Ju (sp:uo) (σ σ2:St) (n k rs off:Nat) (xs ls ys:List (List C)):Prop where
 hx:σ.ev sp.mx=.one (.ptr n k rs off)
 hl:∃s0 yM,σ.ev sp.ml=.one (.bz n k rs off s0 yM)
 od:off+1=rs
 oV:n<aX
 hn:σ.h n=some (.row true .live rs xs)
 oT:(xs[k]?).bind (·[off]?)=some (.list sp.sz ls)
 hy:∃yc,σ.ev sp.my=.one yc/\cF σ.h yc=some (.list sp.sz ys)
 sl:fh ls=true
 sy:fh ys=true
 fit:(ls.length+ys.length)*sp.by_<=fQ
 out:σ2=(σ.cut n).ef n (.row true .live rs (xs.set k ((xs.getD k []).set off (.list sp.sz (ls++ys)))))
theorem aoT {σ2:St} (h:Ee sp σ=some σ2):∃n k b off xs a ys,Ju sp σ σ2 n k b off xs a ys:=by unfold Ee at h;split at h;rename_i n k b off n' k' pz mR s0 yM i f p c;split at h;rename_i e;obtain⟨rfl,rfl,rfl,rfl,r,l⟩:=e;split at h;rename_i rs2 xs hn;split at h;rename_i g;subst g;split at h;rename_i s a s' ys oT m;split at h;rename_i q;obtain⟨rfl,rfl,o,j,d⟩:=q;injection h with h;exact⟨_,_,_,_,xs,a,ys,f,⟨_,_,p⟩,r,l,hn,oT,⟨i,c,m⟩,o,j,d,h.symm⟩;cases h;cases h;cases h;cases h;cases h;cases h
theorem agz (a:CJ P N sp o m=true):ez T m σ=some (σ.put (some sp.d) (.one .bC)):=by
 simp only[CJ,co,decide_eq_true_eq] at a;have c:m.guard=none:=by cases hg:m.guard with|none=>rfl|some g=>rw[hg] at a;simp at a
 have b:=MO.K4 a.1.1.1.2;have hd:=a.1.1.1.1.1.1.1.1;obtain⟨dst,op,guard⟩:=m;simp only at c b hd;subst c b hd;rfl
theorem asa (a:CN P sp o m=true):ez T m σ=some σ:=by
 simp only[CN,co,decide_eq_true_eq] at a;have c:m.guard=none:=by cases hg:m.guard with|none=>rfl|some g=>rw[hg] at a;simp at a
 have b:=MO.K4 a.1.2;have hd:=a.1.1.1.1.1;obtain⟨dst,op,guard⟩:=m;simp only at c b hd;subst c b hd;rfl
theorem asd (r:R B E w0 N σ a w G) (H:CJ P N sp o m=true) {f σ2:St} {n k rs off:Nat} {xs V ys:List (List C)} (F:Ju sp f σ2 n k rs off xs V ys) (S:f.h=σ.h) (hl:f.ev sp.ml=σ.ev sp.ml) (hy:f.ev sp.my=σ.ev sp.my):
  o.guard=none/\o.dst=some sp.d/\sp.d<N/\ez T m σ=some (σ.put (some sp.d) (.one .bC))/\
  o.wp P a w (fun s w'=>∃v,s=a.put (some sp.d) v/\R B E w0 N (σ.put (some sp.d) (.one .bC)) s w' G/\Fu B E w' G σ.h n k off sp.sz (V++ys) v) Q:=by
 simp only[CJ,co,decide_eq_true_eq] at H;obtain⟨⟨⟨⟨⟨⟨⟨⟨M,W⟩,c3⟩,J⟩,K⟩,c6⟩,c7⟩,c8⟩,b⟩:=H;have qR:o.guard=none:=by cases hg:o.guard with|none=>rfl|some g=>rw[hg] at K;cases K
 have Y:m.guard=none:=by cases hg:m.guard with|none=>rfl|some g=>rw[hg] at J;cases J
 have X:=MO.K4 c6;refine⟨qR,W,c3,?_,?_⟩
 ·obtain⟨dst,op,guard⟩:=m;simp only at Y X M;subst Y X M;rfl
 ·split at b
  ·rename_i c u;split at b
   ·rename_i x y t t' O L D;simp only[co,beq_iff_eq] at b;obtain⟨⟨⟨rfl,d2⟩,d3⟩,d4⟩:=b;obtain⟨e,i,z,g1,g2,g3,g4,g5,j⟩:=uB d4;simp only[co,beq_iff_eq,decide_eq_true_eq] at j;obtain⟨⟨j,g7⟩,g8⟩:=j;have ho:o.op=.call {callee:=.builtin .append,args:=#[x,y],argTypes:=#[t,t]}:=by
     rw[u];obtain⟨cc,ca,ct⟩:=c;simp only at O L D;subst O;congr 2
     ·apply zbm;simpa using L
     ·apply zbm;simpa using D
    obtain⟨s0,yM,I⟩:=F.hl;obtain⟨yc,A,U⟩:=F.hy;rw[hl] at I;rw[hy] at A;rw[S] at U;have hn:=F.hn;rw[S] at hn;refine Oper.wp_mono (fun s w' ⟨v,p,e2,Z⟩=>?_) (ah0 (P:=P) (Q:=Q) r ho d2 d3 g1 g2 g3 g4 g5 j g7 g8 hn F.od I F.oT F.sl A U F.sy F.fit);rw[W] at p;refine⟨v,p,?_,Z⟩;rw[p];exact e2.put (x:=.one .bC) (Or.inl rfl) (fun q l=>(l:False).elim) (fun q l=>by injection l with l;omega)
   ·cases b
  ·cases b
theorem ase (r:R B E w0 N σ a w G) (f:CN P sp o m=true) {σ2:St} {n k J off:Nat} {xs q ys:List (List C)} (F:Ju sp σ σ2 n k J off xs q ys) (D:Fu B E w G σ.h n k off sp.sz (q++ys) (a.tmps.getD sp.d undef)):
  o.guard=none/\ez T m σ=some σ/\o.wp P a w (Nx B E w0 N σ2) Q:=by
 simp only[CN,co,decide_eq_true_eq] at f;obtain⟨⟨⟨⟨⟨p,H⟩,j⟩,l⟩,I⟩,c⟩:=f;have K:o.guard=none:=by cases hg:o.guard with|none=>rfl|some g=>rw[hg] at l;cases l
 have v:m.guard=none:=by cases hg:m.guard with|none=>rfl|some g=>rw[hg] at j;cases j
 have u:=MO.K4 I;refine⟨K,?_,?_⟩
 ·obtain⟨dst,op,guard⟩:=m;simp only at v u p;subst v u p;rfl
 ·split at c
  ·rename_i t x s y;simp only[co,beq_iff_eq] at c;obtain⟨⟨A,rfl⟩,b⟩:=c;unfold JT at b;split at b
   ·rename_i i z;simp only[co,beq_iff_eq,decide_eq_true_eq] at b;rw[F.out];refine ais r y H A z b.1 F.hx F.hn F.od F.oV ?_ D;have:=F.oT;cases hk:xs[k]? with
    |none=>rw[hk] at this;cases this
    |some e=>exact⟨e,rfl⟩
   ·cases b
  ·cases c
theorem afK:∀{l:List bO} {σ a:St},(∀m∈l,vB sp m=true)->fy T l σ=some a->a.h=σ.h/\a.ev sp.ml=σ.ev sp.ml/\a.ev sp.my=σ.ev sp.my
 |[],σ,a,hv,hx=>by simp only[fy] at hx;injection hx with hx;subst hx;exact⟨rfl,rfl,rfl⟩
 |m::l,σ,a,hv,hx=>by simp only[fy] at hx;split at hx;rename_i σ1 e;obtain⟨b,c,f⟩:=afL (hv m (by simp)) e;obtain⟨d,i,g⟩:=afK (fun m hm=>hv m (by simp[hm])) hx;exact⟨d.trans b,i.trans c,g.trans f⟩;cases hx
theorem aqE {d:Nat} {dst:Option Nat} {v:Value} (hd:dst≠some d):(a.put dst v).tmps.getD d undef=a.tmps.getD d undef:=by cases dst with|none=>rfl|some s=>have b:s≠d:=fun e=>hd (by rw[e]);simp only[Act.put];simp[zae,Array.getElem?_setIfInBounds_ne b]
theorem aqF {d:Nat} {v:Value} (hd:d<a.tmps.size):(a.put (some d) v).tmps.getD d undef=v:=by simp only[Act.put];simp[zae,hd]
theorem asM (a:vB sp m=true):m.dst≠some sp.d:=by intro h;simp only[vB,co] at a;rw[h] at a;simp at a
theorem ahd (a:qE P N ops o m=true):o.dst=m.dst:=by simp only[qE,co,decide_eq_true_eq] at a;exact a.1.1.1
theorem afZ {s:Oper} {sm:bO}:∀{l:List Oper} {ms:List bO} {σ b σ2:St} {a:Act} {w:World} {G:Gh} {n k i off:Nat} {xs c ys:List (List C)},(∀m∈ms,vB sp m=true)->jW P N ops l ms=true->CN P sp s sm=true-> fy T ms σ=some b->Ju sp b σ2 n k i off xs c ys->R B E w0 N σ a w G->Fu B E w G σ.h n k off sp.sz (c++ys) (a.tmps.getD sp.d undef)->(∀a w G,R B E w0 N σ2 a w G->Q .normal a w)->wpList P ops Q (l++[s]) a w
 |[],[],σ,b,σ2,a,w,G,n,k,i,off,xs,c,ys,hv,hc,hs,hx,F,r,hp,hQ=>by simp only[fy] at hx;injection hx with hx;subst hx;obtain⟨f,_,g⟩:=ase (T:=T) (Q:=Q) r hs F hp;simp only[List.nil_append];unfold wpList;rw[ak (by simp[Region.wanted,f])];exact .inl (Oper.wp_mono (fun q w' ⟨G',j⟩=>hQ q w' G' j) g)
 |o::l,m::ms,σ,b,σ2,a,w,G,n,k,i,off,xs,c,ys,hv,hc,hs,hx,F,r,hp,hQ=>by simp only[jW,co] at hc;simp only[fy] at hx;split at hx;rename_i σ1 p;have e:=hv m (by simp);obtain⟨f,g⟩:=aiC (Q:=Q) r e hc.1 p;simp only[zaP];unfold wpList;rw[ak (by simp[Region.wanted,f])];refine .inl (Oper.wp_mono (fun q w' ⟨u,⟨v,t⟩,j⟩=>?_) g);subst u t;refine afZ (fun m hm=>hv m (by simp[hm])) hc.2 hs hx F j ?_ hQ;rw[(afL e p).1,aqE (by rw[ahd hc.1];exact asM e)];exact hp;cases hx
 |[],_::_,_,_,_,_,_,_,_,_,_,_,_,_,_,_,hc,_,_,_,_,_,_=>by simp[jW] at hc
 |_::_,[],_,_,_,_,_,_,_,_,_,_,_,_,_,_,hc,_,_,_,_,_,_=>by simp[jW] at hc
theorem PM:∀(l a:List bO) (σ:St),fy T (l++a) σ=(fy T l σ).bind (fy T a)
 |[],a,σ=>rfl
 |m::l,a,σ=>by simp only[zaP,fy];cases ez T m σ with|none=>rfl|some σ1=>exact PM l a σ1
theorem as0 {l1 l2:List Oper} {m1:List bO} {σ1:St} (g:m4 P T) (b:jW P N ops l1 m1=true) (hx:fy T m1 σ=some σ1) (r:R B E w0 N σ a w G) (e:∀a w G,R B E w0 N σ1 a w G->wpList P ops Q l2 a w):wpList P ops Q (l1++l2) a w:=by induction l1 generalizing m1 σ a w G with|nil=>(cases m1 with|nil=>simp only[fy] at hx;injection hx with hx;subst hx;exact e _ _ _ r|cons m m1=>simp[jW] at b)|cons o l1 d=>cases m1 with|nil=>simp[jW] at b|cons m m1=>simp only[jW,co] at b;simp only[fy] at hx;split at hx;rename_i σ2 f;simp only[zaP];unfold wpList;rcases F7 (Q:=Q) r g b.1 f with⟨c,h⟩|⟨c,G',h⟩;rw[ak c];exact .inl (Oper.wp_mono (fun a' w' ⟨G',i⟩=>d b.2 hx i) h);rw[aq (by simp[c])];exact d b.2 hx h;cases hx
def O9 (P:Program) (N:Nat) (ops:Array Oper) (ms:List bO) (sp:uo):Bool:=
 jW P N ops (ops.toList.take sp.ia) (ms.take sp.ia)&&
 (match ops.toList.drop sp.ia,ms.drop sp.ia with
  |oa::l,ma::m=>CJ P N sp oa ma&&jW P N ops l.dropLast m.dropLast&&m.dropLast.all (vB sp)&&(match l.getLast?,m.getLast? with
   |some so,some sm=>CN P sp so sm
   |_,_=>false)
  |_,_=>false)
theorem aan {α:Type} {l:List α} {x:α} (h:l.getLast?=some x):l=l.dropLast++[x]:=by rw[List.getLast?_eq_some_iff] at h;obtain⟨ys,rfl⟩:=h;simp
theorem aqN (I:m4 P T) {id:Nat} {ms:List bO} {σ1 σ2:St} (u:O9 P N ops ms sp=true) (hx:fy T ms σ=some σ1) (M:Ee sp σ1=some σ2) (r:R B E w0 N σ a w G) (D:∀a w G,R B E w0 N σ2 a w G->Q .normal a w):(Code.region id ops false).wp P Q a w:=by refine wp_region_list ?_;simp only[O9,co] at u;obtain⟨X,e⟩:=u;split at e;rename_i y l j m H Z;simp only[co,IT] at e;obtain⟨⟨⟨o,O⟩,x⟩,f⟩:=e;split at f;rename_i so sm z f2;have hl:ops.toList=ops.toList.take sp.ia++(y::(l.dropLast++[so])):=(by rw[<-aan z,<-H,zaU]);have hm:ms=ms.take sp.ia++(j::(m.dropLast++[sm])):=(by rw[<-aan f2,<-Z,zaU]);rw[hl];rw[hm,PM] at hx;(cases j4:fy T (ms.take sp.ia) σ with|none=>rw[j4] at hx;cases hx|some τ=>rw[j4] at hx;have hx:fy T (j::(m.dropLast++[sm])) τ=some σ1:=hx;refine as0 I X j4 r fun a w G s=>?_;obtain⟨n,k,rs,off,xs,ls,ys,F⟩:=aoT M;simp only[fy] at hx;have p:ez T j τ=some (τ.put (some sp.d) (.one .bC)):=agz o;rw[p] at hx;simp only at hx;rw[PM] at hx;cases eA:fy T m.dropLast (τ.put (some sp.d) (.one .bC)) with|none=>rw[eA] at hx;cases hx|some b=>rw[eA] at hx;have hx:fy T [sm] b=some σ1:=hx;have g:ez T sm b=some b:=asa f;simp only[fy,g] at hx;injection hx with hx;subst hx;obtain⟨V,S,C⟩:=afK (sp:=sp) x eA;have q:sp.ml≠ .t sp.d/\sp.my≠ .t sp.d:=(by have c:=o;simp only[CJ,co,decide_eq_true_eq,zav] at c;exact⟨MO.K5 c.1.1.2,MO.K5 c.1.2⟩);have Y:b.h=τ.h:=V;have J:b.ev sp.ml=τ.ev sp.ml:=S.trans (Kj q.1);have i:b.ev sp.my=τ.ev sp.my:=C.trans (Kj q.2);obtain⟨K,g2,L,_,W⟩:=asd (T:=T) (Q:=Q) s o F Y J i;unfold wpList;rw[ak (by simp[Region.wanted,K])];refine .inl (Oper.wp_mono (fun a' w' ⟨v,U,A,q3⟩=>?_) W);refine afZ x O f eA F A ?_ D;rw[U,aqF (by rw[s.size];exact L)];exact q3);cases f;cases e
structure as9 (F:Nat->Option FP) (ops:Array Oper) (ms:List bO) (sp:uo):Prop where
 zT:NC F ops ms
 app:∀(i:Nat) (m:bO),ms[i]? =some m->i≠sp.ia->i+1≠ops.size->ub ops sp.ia i\/vB sp m=true
 st:∀i,i+1<ops.size->ub ops (ops.size - 1) i
 lt:sp.ia+1<ops.size
end
section
variable {B:Nat} {E:Ex} {w0 w w':World} {G G':Gh} {N:Nat} {h h':Nat->Option ar} {used used':Nat->Bool}
variable {P:Program} {o:Oper} {a:Act} {σ σ':St} {Q:Exit->Act->World->Prop}
structure Fo (B:Nat) (E:Ex) (w:World) (G:Gh) (h:Nat->Option ar) (pc:PC):Prop where
 e7:Good w pc
 sep:Sep pc
 own:∀b,ba b pc->¬G.Im b/\ek w b/\(B<=b\/E b)
 name:∀b,ba b pc->∀m,h m≠none->(G.g m).nl=false->b≠(G.g m).b
 row:∀b,ba b pc->∀m gr mo sz xs,h m=some (.row gr mo sz xs)->¬bc b (G.g m).px
theorem Fo.less {pc:PC} (L:Fo B E w G h pc) (hl:∀n b,h' n=some b->h n=some b):Fo B E w G h' pc:= ⟨L.e7,L.sep,L.own,fun b c m a=>L.name b c m (by cases hh:h' m with|none=>exact absurd hh a|some x=>rw[hl m x hh];simp),fun b c m d e sz xs a=>L.row b c m d e sz xs (hl m _ a)⟩
theorem Fo.Bg {pc:PC} (d:Good w pc) (c:∀b,¬ba b pc):Fo B E w G h pc:= ⟨d,Sep.Bg c d,fun b a=>absurd a (c b),fun b a=>absurd a (c b),fun b a=>absurd a (c b)⟩
end
section
variable {B:Nat} {E:Ex} {w0 w w':World} {G G':Gh} {N:Nat} {h h':Nat->Option ar} {used used':Nat->Bool}
variable {P:Program} {o:Oper} {a:Act} {σ σ':St} {Q:Exit->Act->World->Prop}
end
section
variable {B:Nat} {E:Ex} {w0 w w':World} {G G':Gh} {N:Nat} {h h':Nat->Option ar} {used used':Nat->Bool}
variable {P:Program} {T:aQ} {o:Oper} {a:Act} {σ σ':St} {Q:Exit->Act->World->Prop} {ops:Array Oper}
end
section
variable {B:Nat} {E:Ex} {w0 w w':World} {G G':Gh} {N:Nat} {h h':Nat->Option ar}
variable {P:Program} {T:aQ} {a:Act} {σ σ':St} {Q:Exit->Act->World->Prop}
theorem R.aqI (r:R B E w0 N σ a w G) {n j:Nat} {cs:List ah} {y:ah} (hn:σ.h n=some (.box cs)) (hy:∀v,w.cell? (ad (G.g n).b ((G.g n).o+j))=some v->RC w G σ.h y v) (D:∀m,y.ref m->σ.used m=true): R B E w0 N (σ.ef n (.box (cs.set j y))) a w G:=by have H:=r.hr;have q:σ.h n≠none:=(by rw[hn];simp);obtain⟨F,J,C⟩:=H.box n cs hn;have x:aI G.g n (G.g n)=G.g:=I7 _ _;have K:bu w G σ.h (fun n=>σ.used n=true) w ⟨G.Im,aI G.g n (G.g n)⟩ (aI σ.h n (some (.box (cs.set j y)))):=(by rw[x];refine⟨fun _ h=>h,fun _ _ _=>rfl,fun m _ hm=>⟨?_,rfl,rfl,rfl,rfl,rfl⟩,fun m l sz xs _ hm=>?_⟩;by_cases f:m=n;subst f;exact q;rwa[cQ _ _ _ _ f] at hm;by_cases f:m=n;subst f;rw[cr] at hm;cases hm;rw[cQ _ _ _ _ f] at hm;exact⟨⟨l,xs,hm⟩,fun k j pc I P=>⟨pc,I,rfl,P⟩⟩);have z:=H.put (w':=w) (used':=σ.used) (n:=n) (blk:=.box (cs.set j y)) (p:=G.g n) (fun _ _ _=>rfl) (zau _) (fun _ _ h=>h) (fun _ h=>h) (H.jp n q) (fun hl=>H.own n q hl) (fun hl m f hm O=>H.inj m n hm q f O hl) (fun hl m l sz xs f hm b d=>H.live m l sz xs hm b d n q hl) (fun cs' c m d t hr=>by injection d with d;subst d;rcases List.mem_or_eq_of_mem_set t with t|rfl;exact H.iK n cs c m hn t hr;exact D m hr) K (by refine⟨F,J,fun i c e=>?_⟩;rw[List.getElem?_set] at e;split at e;rename_i L;subst L;split at e;rename_i M;injection e with e;subst e;obtain⟨v,s,u,A⟩:=C j cs[j] (GB M);exact⟨v,s,u,(hy v s).gf K D⟩;cases e;obtain⟨v,s,u,A⟩:=C i c e;exact⟨v,s,u,A.gf K fun m hm=>H.iK n cs c m hn (BY e) hm⟩) (fun l m sz xs d=>by cases d) (fun l sz xs d=>by cases d) (fun l m sz xs d=>by cases d) (fun hl _ b ⟨m,l,mo,sz,xs,_,hm,d⟩=>H.uJ q hl hm d);rw[x] at K z;exact r.step rfl (fun _ h=>h) K z r.fr
theorem R.lc (r:R B E w0 N σ a w G) (c:Nat) (m:Mode):R B E w0 N (σ.lc c m) a w G:=by unfold St.lc;cases m with|live=>exact r|aN=>exact r|aM=>simp only;split;rename_i u x xs hn;have hg:(⟨G.Im,aI G.g c (G.g c)⟩:Gh)=G:=(by have:aI G.g c (G.g c)=G.g:=(by funext q;rw[kE];split<;>simp[*]);rw[this]);have hr:=r.hr.row c u .aN x xs hn;have z:∀q b,aI σ.h c (some (.row u .aM x xs)) q=some b->q≠c->σ.h q=some b:=fun q b d M=>(by rwa[cQ _ _ _ _ M] at d);have ne:∀q,aI σ.h c (some (.row u .aM x xs)) q≠none->σ.h q≠none:=fun q d=>(by by_cases f:q=c;subst f;rw[hn];simp;rwa[cQ _ _ _ _ f] at d);have lQ:∀q n s o l,aI σ.h c (some (.row u .aM x xs)) q=some (.row n s o l)->s≠ .aM->q≠c/\σ.h q=some (.row n s o l):=fun q n s o l d hm=>(by by_cases f:q=c;subst f;rw[cr] at d;injection d with d;injection d with _ d _ _;exact absurd d.symm hm;exact⟨f,z q _ d f⟩);have K:bu w G σ.h (fun q=>σ.used q=true) w G (aI σ.h c (some (.row u .aM x xs))):= ⟨fun _ h=>h,fun _ _ _=>rfl,fun q _ d=>⟨ne q d,rfl,rfl,rfl,rfl,rfl⟩,fun q n o l _ d=>by obtain⟨J,F⟩:=lQ q n .live o l d (by simp);exact⟨⟨n,l,F⟩,fun k j pc a b=>⟨pc,a,rfl,b⟩⟩⟩;have H:=r.hr;have T:HR B E w G (aI σ.h c (some (.row u .aM x xs))) σ.used []:=(by refine⟨fun q d=>H.jp q (ne q d),fun q cs y p d=>?_,fun q cs d=>?_,fun q n s o l d=>?_,fun q d=>H.own q (ne q d),fun q t d C=>H.inj q t (ne q d) (ne t C),H.gN,H.qY, fun q t n s o l V m2 W P d C hm I=>H.gw q t n s o l V m2 W P (lQ _ _ _ _ _ d hm).2 (lQ _ _ _ _ _ C I).2 hm I, fun q n o l d b D t C=>H.live q n o l (lQ _ _ _ _ _ d (by simp)).2 b D t (ne t C),(by intro i pc A;simp at A),(by intro i j pc dQ b _ A;simp at A),(by intro i pc q n s o l b A;simp at A)⟩;have f:q≠c:=fun e=>(by subst e;rw[cr] at d;cases d);exact H.iK q cs y p (z q _ d f);have f:q≠c:=fun e=>(by subst e;rw[cr] at d;cases d);obtain⟨O,X,Q⟩:=H.box q cs (z q _ d f);refine⟨O,X,fun j y L=>?_⟩;obtain⟨v,Y,Z,U⟩:=Q j y L;exact⟨v,Y,Z,U.gf K fun p S=>H.iK q cs y p (z q _ d f) (BY L) S⟩;by_cases f:q=c;subst f;rw[cr] at d;injection d with d;injection d with J F h3 h4;subst J F h3 h4;exact⟨hr.pos,hr.er,hr.nl,hr.eG,hr.room,fun b D=>(hr.mode.1 b D).1,fun _ h=>by cases h⟩;exact H.row q n s o l (z q _ d f));exact r.step rfl (fun _ h=>h) K T r.fr;exact r
theorem R.Iv (r:R B E w0 N σ a w G) {x c:Nat} {m:Mode} (hx:(σ.bf x c).map (fun σ1=>σ1.lc c m)=some σ'):∃G',R B E w0 N σ' a w G':=by rw[zaS] at hx;obtain⟨σ1,e,rfl⟩:=hx;obtain⟨G',b⟩:=r.bf e;exact⟨G',b.lc c m⟩
theorem R.canon (r:R B E w0 N σ a w G) {x:Bool×Nat×Nat×Nat×Mode} (hx:σ.canon x=some σ'):∃G',R B E w0 N σ' a w G':=by obtain⟨b,n,j,c,m⟩:=x;have ig:some σ=some σ'->∃G',R B E w0 N σ' a w G':=fun h=>(by injection h with h;subst h;exact⟨G,r⟩);cases b with|true=>simp only[St.canon] at hx;split at hx;rename_i cs hn;split at hx;exact r.Iv hx;rename_i sz u;split at hx;rename_i y;split at hx;rename_i σ1 e;injection hx with hx;subst hx;obtain⟨i,d,o⟩:=r.ZJ y e;obtain⟨A,rfl⟩:=oA e;have C:σ.used n=true:=r.hr.jp n (by rw[hn];simp);have K:n≠c:=fun D=>(by subst D;rw[A] at C;cases C);have z:(aI σ.h c (some (.row true m sz []))) n=some (.box cs):=(by rw[cQ _ _ _ _ K];exact hn);refine⟨i,d.aqI z (fun v f=>?_) (fun q t=>?_)⟩;obtain⟨H,J,v2,I⟩:=(d.hr.box n cs z).2.2 j _ u;rw[J] at f;injection f with f;subst f;have l:H=.slice none 0 0:=I;subst l;exact o;have p:q=c:=t;subst p;exact cr _ _ _;cases hx;exact ig hx;exact ig hx;exact ig hx|false=>simp only[St.canon] at hx;split at hx;exact r.Iv hx;rename_i sz u;split at hx;rename_i y;split at hx;rename_i σ1 e;injection hx with hx;subst hx;obtain⟨i,d,o⟩:=r.ZJ y e;obtain⟨A,rfl⟩:=oA e;have f:=d.env n;rw[show({σ with h:=aI σ.h c (some (.row true m sz [])),used:=aI σ.used c true}:St).env n=σ.env n from rfl,u] at f;have F:a.tmps.getD n undef=.slice none 0 0:=(f.gj (by simp)).1;refine⟨i,d.defers,d.size,fun s=>?_,fun s q t=>?_,d.hr,d.fr,d.pi,d.wY⟩;show RA w i _ (aI σ.env n _ s) _;by_cases g:s=n;subst g;rw[cr,F];exact RA.gh rfl o;rw[cQ _ _ _ _ g];exact d.env s;have k:(aI σ.env n (.one (.sl c sz 0 0)) s).ref q:=t;by_cases g:s=n;subst g;rw[cr] at k;have p:q=c:=k;subst p;exact cr _ _ _;rw[cQ _ _ _ _ g] at k;exact d.qq s q k;cases hx;exact ig hx;exact ig hx
theorem R.uw:∀{l:List (Bool×Nat×Nat×Nat×Mode)} {σ:St} {G:Gh},R B E w0 N σ a w G->σ.uw l=some σ'->∃G',R B E w0 N σ' a w G'
 |[],σ,G,r,hx=>by simp only[St.uw] at hx;injection hx with hx;subst hx;exact⟨G,r⟩
 |x::l,σ,G,r,hx=>by simp only[St.uw] at hx;split at hx;rename_i σ1 e;obtain⟨G1,b⟩:=r.canon e;exact R.uw b hx;cases hx
theorem R.head (r:R B E w0 N σ a w G) {ke b:List Nat} {c:List (Bool×Nat×Nat×Nat×Mode)} (hx:σ.head ke b c=some σ'):∃G',R B E w0 N σ' a w G':=by unfold St.head at hx;split at hx;rename_i σ1 e;injection hx with hx;subst hx;obtain⟨d,f⟩:=((r.jA ke b).jA ke b).uw e;exact⟨d,f.jA ke b⟩;cases hx
def jG (P:Program) (N:Nat):Code->kJ->Bool
 |c,.join _ _ _ mc=>jG P N c mc
 |.skip,.skip=>true
 |.region _ ops ni,.fE FV ms=>(ni==FV)&&jW P N ops ops.toList ms&&(!ni||JP ops.toList ms)
 |.region _ ops ni,.sF ps ms=>ni&&jW P N ops ops.toList ms&&JQ ps ops.toList ms
 |.region _ ops ni,.tV FV ps ms sp=>(ni==FV)&&(if FV=true then false else O9 P N ops ms sp)
 |.seq x y,.seq mx my=>jG P N x mx&&jG P N y my
 |.cond c x y,.cond mc mx my=>bU c mc&&jG P N x mx&&jG P N y my
 |.block id c,.block RS mc=>(id==RS)&&jG P N c mc
 |.loop c,.loop _ _ _ _ mc=>jG P N c mc
 |.exit id,.exit RS=>id==RS
 |.ret,.ret=>true
 |_,_=>false
def agf (B:Nat) (E:Ex) (w0:World) (N:Nat) (Q:Exit->Act->World->Prop):s8->Prop
 |.fR σ=>∀a w G,R B E w0 N σ a w G->Q .normal a w
 |.ext id σ=>∀a w G,R B E w0 N σ a w G->Q (.exit id) a w
 |.ret σ=>∀a w G,R B E w0 N σ a w G->Q .ret a w
theorem lW (f:m4 P T) (hm:P.follows .mixedOrders=true):∀(d:kJ) {c:Code} {σ:St} {o:s8} {a:Act} {w:World} {G:Gh} {Q:Exit->Act->World->Prop}, jG P N c d=true->dZ T d σ=some o->R B E w0 N σ a w G->agf B E w0 N Q o->c.wp P Q a w
 |.skip,c,σ,o,a,w,G,Q,b,hx,r,hQ=>by(cases c<;>simp only[jG] at b<;>first|cases b|skip);simp only[dZ] at hx;injection hx with hx;subst hx;exact wp_skip (hQ _ _ _ r)
 |.fE s ms,c,σ,o,a,w,G,Q,b,hx,r,hQ=>by(cases c<;>simp only[jG] at b<;>first|cases b|skip);simp only[co,zaB,beq_iff_eq] at b;simp only[dZ] at hx;split at hx;rename_i σ1 e;injection hx with hx;subst hx;exact aqO f hm b.1.2 (fun hd=>b.2.resolve_left (by simp[hd])) e r hQ;cases hx
 |.sF ps ms,c,σ,o,a,w,G,Q,b,hx,r,hQ=>by(cases c<;>simp only[jG] at b<;>first|cases b|skip);simp only[co] at b;obtain⟨⟨hd,k⟩,u⟩:=b;subst hd;simp only[dZ] at hx;split at hx;rename_i v σ1 e;(cases hp:wX ps v with|true=>rw[hp] at hx;injection hx with hx;subst hx;exact aqM f hm k u e hp r hQ|false=>rw[hp] at hx;cases hx);cases hx
 |.tV FV ps ms sp,c,σ,o,a,w,G,Q,b,hx,r,hQ=>by(cases c<;>simp only[jG] at b<;>first|cases b|skip);simp only[co,beq_iff_eq] at b;obtain⟨hd,k⟩:=b;subst hd;rename_i s;cases s with|false=>simp only[zaf,if_false] at k;simp only[dZ] at hx;split at hx;rename_i σ1 e;split at hx;rename_i σ2 x;injection hx with hx;subst hx;exact aqN f k e x r hQ;cases hx;cases hx|true=>simp at k
 |.seq mx my,c,σ,o,a,w,G,Q,b,hx,r,hQ=>by(cases c<;>simp only[jG] at b<;>first|cases b|skip);simp only[co] at b;simp only[dZ] at hx;refine wp_seq ?_;cases e:dZ T mx σ with|none=>rw[e] at hx;cases hx|some h=>rw[e] at hx;cases h with|fR σ1=>exact lW f hm mx b.1 e r fun a w G g=>lW f hm my b.2 hx g hQ|ext i σ1=>injection hx with hx;subst hx;exact lW f hm mx b.1 e r hQ|ret σ1=>injection hx with hx;subst hx;exact lW f hm mx b.1 e r hQ
 |.cond d mx my,c,σ,o,a,w,G,Q,b,hx,r,hQ=>by(cases c<;>simp only[jG] at b<;>first|cases b|skip);simp only[co] at b;simp only[dZ] at hx;split at hx;rename_i t z;have q:=(r.ev b.1.1).1;rw[z] at q;refine wp_cond q.CF ?_;(cases t with|true=>simp only[if_true] at hx⊢;exact lW f hm mx b.1.2 hx r hQ|false=>simp only[zaf,if_false] at hx⊢;exact lW f hm my b.2 hx r hQ);cases hx
 |.block id d,c,σ,o,a,w,G,Q,b,hx,r,hQ=>by(cases c<;>simp only[jG] at b<;>first|cases b|skip);simp only[co,beq_iff_eq] at b;obtain⟨rfl,b⟩:=b;simp only[dZ] at hx;refine wp_block ?_;cases e:dZ T d σ with|none=>rw[e] at hx;cases hx|some h=>rw[e] at hx;refine lW f hm d b e r ?_;cases h with|fR σ1=>injection hx with hx;subst hx;exact hQ|ret σ1=>injection hx with hx;subst hx;exact hQ|ext i σ1=>simp only at hx;intro a w G g;simp only[Exit.inBlock];split at hx;rename_i m;injection hx with hx;subst hx;rw[ak m];exact hQ a w G g;rename_i m;injection hx with hx;subst hx;rw[aq m];exact hQ a w G g
 |.join ke kh cn d,c,σ,o,a,w,G,Q,b,hx,r,hQ=>by have b:jG P N c d=true:=(by cases c<;>exact b);simp only[dZ] at hx;cases e:dZ T d σ with|none=>rw[e] at hx;cases hx|some h=>rw[e] at hx;cases h with|fR σ1=>simp only at hx;split at hx;rename_i σh j;injection hx with hx;subst hx;exact lW f hm d b e r fun a w G g=>(by obtain⟨G',p⟩:=g.head j;exact hQ a w G' p);cases hx|ext i σ1=>injection hx with hx;subst hx;exact lW f hm d b e r hQ|ret σ1=>injection hx with hx;subst hx;exact lW f hm d b e r hQ
 |.loop id ke kh cn d,c,σ,o,a,w,G,Q,b,hx,r,hQ=>by(cases c<;>simp only[jG] at b<;>first|cases b|skip);rename_i c;simp only[dZ] at hx;refine wp_loop_rounds aK ?_;revert hx r;generalize aK=n;revert σ a w G;induction n with|zero=>intro σ a w G hx r;simp[Ea] at hx|succ n y=>intro σ a w G hx r;simp only[Ea] at hx;rw[rounds_succ];cases j:σ.head ke kh cn with|none=>rw[j] at hx;cases hx|some σh=>rw[j] at hx;obtain⟨G',p⟩:=r.head j;cases e:dZ T d σh with|none=>simp only[e] at hx;cases hx|some h=>simp only[e] at hx;refine lW f hm d b e p ?_;cases h with|fR σ1=>intro a w G g;exact y _ _ _ _ hx g|ext i σ1=>injection hx with hx;subst hx;exact hQ|ret σ1=>injection hx with hx;subst hx;exact hQ
 |.exit id,c,σ,o,a,w,G,Q,b,hx,r,hQ=>by(cases c<;>simp only[jG] at b<;>first|cases b|skip);have l:=eq_of_beq b;subst l;simp only[dZ] at hx;injection hx with hx;subst hx;exact wp_exit (hQ _ _ _ r)
 |.ret,c,σ,o,a,w,G,Q,b,hx,r,hQ=>by(cases c<;>simp only[jG] at b<;>first|cases b|skip);simp only[dZ] at hx;injection hx with hx;subst hx;exact wp_ret (hQ _ _ _ r)
end
inductive bE where
 |tmp (t:Nat)
 |cell (t sz:Nat) (ag:Bool)
def nT (P:Program):List ResultVar->List bE->Bool
 |[],[]=>true
 |.tmp t::rs,.tmp t'::ms=>(t==t')&&nT P rs ms
 |.cell a ty::rs,.cell a' sz ag::ms=>(a==a')&&CK P ty ag sz&&nT P rs ms
 |_,_=>false
def St.rj (σ:St):List bE->Option (List ao)
 |[]=>some []
 |.tmp t::ms=>match σ.rj ms with
  |some vs=>some (σ.env t::vs)
  |none=>none
 |.cell t sz ag::ms=>match σ.env t with
  |.one p=>match loadAt σ.h p sz,σ.rj ms with
   |some cs,some vs=>some (rv ag cs::vs)
   |_,_=>none
  |_=>none
def lP (h:Nat->Option ar):ah->Option (C×List Nat)
 |.c x=>if x.eX=true then some (x,[]) else none
 |.nil sz=>if 0<sz then some (.list sz [],[]) else none
 |.sl n sz 0 len=>match h n with
  |some (.row true m rs xs)=>if rs=sz/\m≠ .aM/\len<=xs.length then some (.list sz (xs.take len),[n]) else none
  |_=>none
 |_=>none
def sI (h:Nat->Option ar):List ah->Option (List C×List Nat)
 |[]=>some ([],[])
 |c::cs=>match lP h c,sI h cs with
  |some (x,ns),some (xs,lN)=>some (x::xs,ns++lN)
  |_,_=>none
def pq (h:Nat->Option ar):List ao->Option (List Dv×List Nat)
 |[]=>some ([],[])
 |v::vs=>match v.cells? with
  |some (ag,cs)=>match sI h cs,pq h vs with
   |some (xs,ns),some (ds,lN)=>some ((if ag=true then(K.agg,xs) else(K.one,xs))::ds,ns++lN)
   |_,_=>none
  |none=>none
def St.sH (σ:St) (ms:List bE):Option (List Dv):=
 match σ.rj ms with
 |some vs=>match pq σ.h vs with
  |some (ds,ns)=>if ns.Nodup then some ds else none
  |none=>none
 |none=>none
section
variable {B:Nat} {E:Ex} {w0 w w':World} {G G':Gh} {N:Nat} {h h':Nat->Option ar} {used:Nat->Bool}
variable {P:Program} {T:aQ} {a:Act} {σ σ':St}
def n4 (G:Gh) (n b:Nat):Prop:=((G.g n).nl=false/\b=(G.g n).b)\/bc b (G.g n).px
theorem HR.Ya (H:HR B E w G h used []) {n c:Nat} (k:n≠c) {a z:Bool} {m f:Mode} {sz j:Nat} {xs o:List (List C)} (e:h n=some (.row a m sz xs)) (i:h c=some (.row z f j o)) (hm:m≠ .aM) (t:f≠ .aM) {b:Nat} (l:n4 G n b):¬n4 G c b:=by have r:h n≠none:=(by rw[e];simp);have x:h c≠none:=(by rw[i];simp);have own:∀{p q:Nat} {a:Bool} {m:Mode} {sz:Nat} {xs:List (List C)},h p≠none->h q=some (.row a m sz xs)->m≠ .aM->(G.g p).nl=false->¬bc (G.g p).b (G.g q).px:=(by intro p q a m sz xs u v hm hl y;have A:=(H.row q a m sz xs v).mode;cases m with|aM=>exact hm rfl|aN=>exact(H.own p u hl).1 (A.1 _ y).1|live=>exact H.live q a sz xs v _ y p u hl rfl);rintro(⟨l2,rfl⟩|s);rcases l with⟨l1,d⟩|d;exact H.inj n c r x k l1 l2 d.symm;exact own x e hm l2 d;rcases l with⟨l1,rfl⟩|d;exact own r i t l1 s;exact H.gw n c a m sz xs z f j o e i hm t k b d s
structure U4 (B:Nat) (w:World) (G:Gh) (h:Nat->Option ar) (ns:List Nat) (pc:PC):Prop where
 e7:Good w pc/\Sep pc/\Fx w pc
 new:∀b,kI b pc->(B<=b/\ek w b)/\∃n∈ns,n4 G n b
def vK (h:Nat->Option ar) (ns:List Nat):Prop:=∀n∈ns,∃gr m sz xs,h n=some (.row gr m sz xs)/\m≠ .aM
theorem HR.lP (H:HR B Ex.no w G h used []) {c:ah} {x:C} {ns:List Nat} {v:Value} (hx:lP h c=some (x,ns)) (O:RC w G h c v): ∃pc:PC,pc.er=x/\pc.val=v/\U4 B w G h ns pc/\vK h ns/\∀n sz len E m i xs,c=.sl n sz 0 len->h n=some (.row E m i xs)->∃x0 cap,pc=.list i x0 cap ((G.g n).px.take len):=by have I:∀pc:PC,(∀sz a cap xs,pc≠ .list sz a cap xs)->∀b,¬kI b pc:=(by intro pc M b d;rcases d with d|⟨sz,o,cap,xs,rfl,_⟩;(cases d with|here sz o cap xs h=>exact M _ _ _ _ rfl|there sz a cap xs k j c s u=>exact M _ _ _ _ rfl);exact M _ _ _ _ rfl);cases c with|c y=>simp only[Am.lP] at hx;split at hx;rename_i l;injection hx with hx;injection hx with s u;subst s u;obtain⟨pc,p1,p2,p3,p4⟩:=O;have cN:∀b,¬kI b pc:=I pc (by rintro sz a cap xs rfl;rw[<-p1] at l;simp[PC.dW,C.eX] at l);have oZ:Fx w pc:=(by cases pc with|list sz a cap xs=>rw[<-p1] at l;simp[PC.dW,C.eX] at l|_=>trivial);exact⟨pc,p1,p2,⟨⟨p3,(Sep.iI (by rw[p1];exact l)).1,oZ⟩,fun b d=>absurd d (cN b)⟩,(fun n hn=>by simp at hn),fun n sz len E m i xs e=>by cases e⟩;cases hx|nil sz=>simp only[Am.lP] at hx;split at hx;rename_i T;injection hx with hx;injection hx with s u;subst s u;have dm:v=.slice none 0 0:=O;subst dm;have K:Sep (.list sz none 0 []):=(by refine .list _ _ _ _ ?_ ?_ ?_;rintro k j c ⟨e,f,_⟩;simp at f;rintro b o k j c _ ⟨e,f,_⟩;simp at f;rintro k j c k' j' c' b ⟨e,f,_⟩;simp at f);refine⟨.list sz none 0 [],by simp[PC.dW],rfl,⟨⟨.nil _ _ _ T,K,T,by simp,.inl rfl⟩,fun b d=>?_⟩,(fun n hn=>by simp at hn),fun n sz len E m i xs e=>by cases e⟩;rcases d with d|⟨_,_,_,_,d,J⟩;rw[ba.lK] at d;rcases d with⟨d,_⟩|⟨k,j,c,⟨e,f,_⟩,_⟩;exact absurd rfl d;simp at f;cases d;cases hx|sl n sz lo len=>(cases lo with|succ lo=>simp[Am.lP] at hx|zero=>simp only[Am.lP] at hx;split at hx;rename_i m i xs hn;split at hx;rename_i cY;obtain⟨rfl,hm,hl⟩:=cY;injection hx with hx;injection hx with s u;subst s u;have D:h n≠none:=(by rw[hn];simp);have hr:=H.row n true m i xs hn;have l:jb (G.g n) i 0 len v:=O D;obtain⟨a1,a2,A,X⟩:=II hr l (by omega);have qU:(∀b,bc b (G.g n).px->ek w b/\B<=b)/\jE (G.g n).px/\(∀b,bc b (G.g n).px->(G.g n).nl=false->b≠(G.g n).b):=(by have r:=hr.mode;cases m with|aM=>exact absurd rfl hm|aN=>exact⟨fun b d=>⟨(r.1 b d).2.1,(r.1 b d).2.2.resolve_right id⟩,r.2,fun b d hl fA=>(H.own n D hl).1 (fA▸(r.1 b d).1)⟩|live=>exact⟨fun b d=>⟨(r.1 b d).2.1,(r.1 b d).2.2.resolve_right id⟩,r.2,fun b d hl=>H.live n true i xs hn b d n D hl⟩);obtain⟨Z,o2,Y⟩:=qU;refine⟨kV (G.g n) i 0 len v,by simpa using a1,a2,?_,fun q W=>?_,fun n' aL HS br m' pz av P t=>?_⟩;rcases l with⟨p,rfl,_,rfl⟩|⟨p,N,rfl,jM,F⟩;simp only[kV] at A⊢;have hz:(zaC 0 (zbk 0 (G.g n).px))=[]:=(by simp);have JI:=(hr.nl p).2 rfl;rw[hz,JI] at A⊢;have K:Sep (.list i (G.g n).na 0 []):=(by refine .list _ _ _ _ ?_ ?_ ?_;rintro k j c ⟨e,f,_⟩;simp at f;rintro b o k j c _ ⟨e,f,_⟩;simp at f;rintro k j c k' j' c' b ⟨e,f,_⟩;simp at f);refine⟨⟨A,K,hr.pos,by simp,.inl rfl⟩,fun b d=>?_⟩;rcases d with d|⟨_,_,_,_,d,J⟩;rw[ba.lK] at d;rcases d with⟨d,_⟩|⟨k,j,c,⟨e,f,_⟩,_⟩;exact absurd rfl d;simp at f;injection d with _ _ d _;exact absurd d.symm J;obtain⟨r2,cur,e,r3,r4⟩:=hr.room p rfl;have e0:=F (.inr rfl);have Q:N=some (ad (G.g n).b (G.g n).o):=(by rw[e0];simp);subst Q;simp only[kV,zaV] at A X⊢;have U:=o2.sub 0 len;have R:∀k j c,At ((zbk 0 (G.g n).px).take len) k j c->At (G.g n).px k j c:=fun k j c z=>(by have:=(qA z).1;simpa using this);refine⟨⟨A,.list _ _ _ _ U.1 (fun b o k j c L z d=>?_) U.2,hr.pos,by simp;omega,.inr ⟨_,_,cur,e,rfl,r3,r4,r2,fun k j c z d=>?_⟩⟩,fun b d=>?_⟩;injection L with L;exact Y b ⟨_,_,_,R _ _ _ z,d⟩ p (lV L).1.symm;exact Y _ ⟨_,_,_,R _ _ _ z,d⟩ p rfl;have V:n4 G n b:=(by rcases d with d|⟨_,_,_,_,d,J⟩;exact X b d;injection d with _ d _ _;injection d with d;exact .inl ⟨p,(lV d).1.symm⟩);refine⟨?_,n,by simp,V⟩;rcases V with⟨_,rfl⟩|S;exact⟨((H.own n D p).2.1).resolve_right id,(hr.eG p).1⟩;exact⟨(Z b S).2,(Z b S).1⟩;simp at W;subst W;exact⟨_,_,_,_,hn,hm⟩;injection P with P _ _ e3;subst P e3;rw[hn] at t;injection t with t;injection t with _ _ t _;subst t;rcases l with⟨_,rfl,_,_⟩|⟨_,a',rfl,_,_⟩;exact⟨_,_,by simp only[kV,za0];rfl⟩;exact⟨_,_,by simp only[kV,za0];rfl⟩;cases hx;cases hx)|ptr _ _ _ _=>simp[Am.lP] at hx|di _ _=>simp[Am.lP] at hx|cO _ _ _ _ _ _=>simp[Am.lP] at hx|bz _ _ _ _ _ _=>simp[Am.lP] at hx|fn _ _=>simp[Am.lP] at hx|cX _ _ _ _ _ _=>simp[Am.lP] at hx|bC=>simp[Am.lP] at hx
structure uq (B:Nat) (w:World) (G:Gh) (h:Nat->Option ar) (ns:List Nat) (ps:List PC):Prop where
 each:∀pc∈ps,U4 B w G h ns pc
 oP:ns.Nodup->ps.Pairwise fun p q=>∀b,kI b p->¬kI b q
theorem uq.append (H:HR B Ex.no w G h used []) {ns j:List Nat} {ps f:List PC} (i:uq B w G h ns ps) (l:uq B w G h j f) (r:vK h ns) (o:vK h j):uq B w G h (ns++j) (ps++f):=by refine⟨fun pc x=>?_,fun hd=>?_⟩;rcases zai.1 x with e|e;obtain⟨g,n⟩:=i.each pc e;exact⟨g,fun b a=>⟨(n b a).1,by obtain⟨k,c,d⟩:=(n b a).2;exact⟨k,by simp[c],d⟩⟩⟩;obtain⟨g,n⟩:=l.each pc e;exact⟨g,fun b a=>⟨(n b a).1,by obtain⟨k,c,d⟩:=(n b a).2;exact⟨k,by simp[c],d⟩⟩⟩;rw[List.nodup_append] at hd;rw[zaA];refine⟨i.oP hd.1,l.oP hd.2.1,fun p e q u b a y=>?_⟩;obtain⟨k,c,d⟩:=((i.each p e).new b a).2;obtain⟨k',m,t⟩:=((l.each q u).new b y).2;obtain⟨_,_,_,_,s,m1⟩:=r k c;obtain⟨_,_,_,_,v,m2⟩:=o k' m;exact H.Ya (hd.2.2 k c k' m) s v m1 m2 d t
theorem vK.append {ns a:List Nat} (c:vK h ns) (b:vK h a):vK h (ns++a):=fun n hn=>(zai.1 hn).elim (c n) (b n)
theorem HR.sI (H:HR B Ex.no w G h used []):∀{cs:List ah} {xs:List C} {ns:List Nat} {vs:List Value},sI h cs=some (xs,ns)->dA w G h cs vs->
  ∃d:List PC,d.map PC.er=xs/\d.map PC.val=vs/\uq B w G h ns d/\vK h ns
 |[],xs,ns,vs,hx,hc=>by
  simp only[Am.sI] at hx;injection hx with hx;injection hx with b e;subst b e;have:vs=[]:=OF (by simpa using hc.1);subst this;exact⟨[],rfl,rfl,⟨by simp,fun _=>za6⟩,fun n hn=>by simp at hn⟩
 |c::cs,xs,ns,vs,hx,hc=>by
  simp only[Am.sI] at hx;split at hx
  ·rename_i x f av ns2 p z;injection hx with hx;injection hx with b e;subst b e;obtain⟨a,i⟩:=hc;match vs,a with
   |v::vs,a=>
    obtain⟨pc,m,A,r,l,_⟩:=H.lP p (i 0 c v rfl rfl).2;obtain⟨d,o,s,t,g⟩:=H.sI z (cs:=cs) (vs:=vs) ⟨by simpa using a,fun j c u b e=>i (j+1) c u b e⟩;have y:uq B w G h f [pc]:=⟨fun q k=>by simp at k;subst k;exact r,fun _=>by simp⟩;exact⟨pc::d,by simp[m,o],by simp[A,s],uq.append H y t l g,l.append g⟩
  ·cases hx
theorem HR.pq (H:HR B Ex.no w G h used []):∀{xs:List ao} {ds:List Dv} {ns:List Nat} {vs:List Value},pq h xs=some (ds,ns)->vs.length=xs.length->
  (∀(j:Nat) (x:ao) (v:Value),xs[j]? =some x->vs[j]? =some v->RA w G h x v)->
  ∃b:List (K×List PC),b.map (fun p=>(p.1,p.2.map PC.er))=ds/\b.map sJ=vs/\(∀p∈b,p.1≠ .ptr/\(p.1=.one->p.2.length=1))/\uq B w G h ns (b.flatMap (·.2))/\vK h ns
 |[],ds,ns,vs,hx,hl,hc=>by
  simp only[Am.pq] at hx;injection hx with hx;injection hx with f i;subst f i;have:vs=[]:=OF (by simpa using hl);subst this;exact⟨[],rfl,rfl,by simp,⟨by simp,fun _=>za6⟩,fun n hn=>by simp at hn⟩
 |x::xs,ds,ns,vs,hx,hl,hc=>by
  simp only[Am.pq] at hx;split at hx
  ·rename_i ag cs a;split at hx
   ·rename_i ys ns1 xS ns2 D I;injection hx with hx;injection hx with f i;subst f i;match vs,hl with
    |v::vs,hl=>
     obtain⟨r,s,g,y,m⟩:=H.sI D ((hc 0 x v rfl rfl).cells a);obtain⟨b,t,z,C,u,k⟩:=H.pq I (xs:=xs) (vs:=vs) (by simpa using hl) (fun j x v f i=>hc (j+1) x v f i);have A:=hc 0 x v rfl rfl;cases ag with
     |true=>
      have q:sJ (K.agg,r)=v:=by
       cases x with
       |one c=>cases c<;>simp[ao.cells?] at a
       |agg cs'=>
        obtain⟨us,e,_⟩:∃us:List Value,v=.agg us.toArray/\dA w G h cs' us:=A;subst e;simp only[sJ,g];simp[Value.cells]
       |bH l=>simp[ao.cells?] at a
      refine⟨(K.agg,r)::b,by simp[s,t],by simp[q,z],fun p d=>?_,?_,m.append k⟩
      ·cases d with
       |head=>exact⟨by simp,fun e=>by cases e⟩
       |tail _ d=>exact C p d
      ·simpa using uq.append H y u m k
     |false=>
      have F:∃c,x=.one c/\cs=[c]:=by
       cases x with
       |one c=>cases c<;>simp[ao.cells?] at a<;>exact⟨_,rfl,a.symm⟩
       |agg cs'=>simp[ao.cells?] at a
       |bH l=>simp[ao.cells?] at a
      obtain⟨c,rfl,rfl⟩:=F;have E:c≠ .bC:=by rintro rfl;simp[ao.cells?] at a
      have o:=(A.gj E).2;have J:v.cells.toList=[v]:=by cases v<;>first|rfl|(simp[Value.oneCell'] at o)
      rw[J] at g;match r,g with
      |[pc],g=>
       have q:sJ (K.one,[pc])=v:=by simpa[sJ] using g
       refine⟨(K.one,[pc])::b,by simp[<-s,t],by simp[q,z],fun p d=>?_,?_,m.append k⟩
       ·cases d with
        |head=>exact⟨by simp,fun _=>rfl⟩
        |tail _ d=>exact C p d
       ·simpa using uq.append H y u m k
   ·cases hx
  ·cases hx
end
def zP:Dv->ao
 |(.one,[x])=>.one (.c x)
 |(.one,_)=>.one .bC
 |(.agg,xs)=>.agg (xs.map .c)
 |(.ptr,xs)=>.one (.di xs 0)
def ve:Nat->List Dv->(Nat->ao)
 |_,[]=>C0
 |k,d::ds=>aI (ve (k+1) ds) k (zP d)
def Ho (ds:List Dv):St:={env:=ve 0 ds,h:=C1,used:=fun n=>zaw aX n}
def L7 (T:aQ) (mc:kJ) (aC:List bE) (ds:List Dv):Option (List Dv):=
 match dZ T mc (Ho ds) with
 |some (.fR σ)=>σ.sH aC
 |some (.ret σ)=>σ.sH aC
 |_=>none
section
variable {B:Nat} {E:Ex} {w0 w w':World} {G G':Gh} {N:Nat} {h h':Nat->Option ar} {used:Nat->Bool}
variable {P:Program} {T:aQ} {a:Act} {σ σ':St} {Q:Exit->Act->World->Prop}
theorem RY:∀(ds:List Dv) (k n:Nat),ve k ds n=if k<=n then(match ds[n - k]? with|some d=>zP d|none=>.one .bC) else .one .bC
 |[],k,n=>by simp[ve,C0]
 |d::ds,k,n=>by simp only[ve,kE,RY ds];by_cases h:n=k;subst h;simp;by_cases b:k<=n;have a:k+1<=n:=(by omega);have c:n - k=(n - (k+1))+1:=(by omega);simp[h,b,a,c];have a:¬k+1<=n:=(by omega);simp[h,b,a]
def Qd (w:World):Gh:=⟨fun b=>b<w.heap.size,fun _=>default⟩
theorem agB {d:Dv} {v:Value} (hd:BN w d v):RA w (Qd w) C1 (zP d) v:=by
 have cells:∀{a:List PC},(∀pc∈a,Good w pc)->dA w (Qd w) C1 ((a.map PC.er).map .c) (a.map PC.val):=by
  intro a m;refine⟨by simp,fun j c u e h=>?_⟩;simp only[By,zaq] at e h;cases hp:a[j]? with
  |none=>rw[hp] at e;cases e
  |some pc=>
   rw[hp] at e h;simp at e h;subst e;subst h;have l:=m pc (BY hp);exact⟨PC.kF pc,pc,rfl,rfl,l,fun b i=>l.lt i⟩
 obtain⟨k,xs⟩:=d;cases k with
 |one=>
  obtain⟨a,p1,g,f⟩:=hd;have p1:a.map PC.er=xs:=p1;subst p1;match a,f with
  |[pc],f=>
   simp at f;subst f;exact RA.gh (PC.kF pc) ⟨pc,rfl,rfl,g pc (by simp),fun b i=>(g pc (by simp)).lt i⟩
 |agg=>
  obtain⟨a,p1,g,f⟩:=hd;have p1:a.map PC.er=xs:=p1;subst p1;exact⟨_,f,cells g⟩
 |ptr=>
  obtain⟨a,b,o,p1,g,f,p4⟩:=hd;have p1:a.map PC.er=xs:=p1;subst p1 g;exact RA.gh rfl ⟨b,o,a,by simp,rfl,f,fun j c e=>⟨(p4 j c e).1,(p4 j c e).2,fun b' n=>(p4 j c e).2.lt n⟩⟩
theorem agC {d:Dv} {m:Nat}:¬(zP d).ref m:=by
 obtain⟨k,xs⟩:=d;cases k with
 |one=>match xs with
  |[]=>exact id
  |[x]=>exact id
  |_::_::_=>exact id
 |agg=>
  rintro⟨c,a,h⟩;obtain⟨y,_,rfl⟩:=zad.1 a;exact h
 |ptr=>exact id
theorem R.init {ds:List Dv} {vals:List Value} (t:Fg w ds vals) (hN:ds.length<=N): R w.heap.size Ex.no w N (Ho ds) {tmps:=vals.toArray++zar (N - vals.toArray.size) undef,defers:=[]} w (Qd w):=by obtain⟨hl,u⟩:=t;refine⟨rfl,by simp;omega,fun s=>?_,fun s n hn=>?_,?_,Fr.refl _ _ _ (zau _),fun n p b r=>(by cases r),fun n hn=>zag hn⟩;show RA w _ C1 (ve 0 ds s) _;rw[RY];simp only[zbe,if_true,zaV];(cases hs:ds[s]? with|none=>exact Or.inl rfl|some d=>have k:s<vals.length:=(by rw[hl];exact(If.1 hs).1);have o:vals[s]? =some vals[s]:=GB k;have:(vals.toArray++zar (N - vals.toArray.size) undef).getD s undef=vals[s]:=(by simp[zae,zay,k]);rw[this];exact agB (u s d _ hs o));have e:(ve 0 ds s).ref n:=hn;rw[RY] at e;simp only[zbe,if_true,zaV] at e;(cases hs:ds[s]? with|none=>rw[hs] at e;exact absurd e id|some d=>rw[hs] at e;exact absurd e agC);have a:∀n,(Ho ds).h n=none:=fun n=>rfl;refine⟨fun n hn=>absurd (a n) hn,fun m cs c n hm=>?_,fun n cs hn=>?_,fun n g m sz xs hn=>?_,fun n hn=>absurd (a n) hn,fun n q hn=>absurd (a n) hn,fun b l=>l,fun b _=>.inr (.inr trivial), fun n q g m sz xs br m' aL av hn=>?_,fun n g sz xs hn=>?_,?_,?_,?_⟩;rw[a] at hm;cases hm;rw[a] at hn;cases hn;rw[a] at hn;cases hn;rw[a] at hn;cases hn;rw[a] at hn;cases hn;intro i pc f;simp at f;intro i j pc dQ b _ f;simp at f;intro i pc n g m sz xs b f;simp at f
theorem arh (r:R B E w0 N σ a w G) {t sz:Nat} {ag:Bool} {ty:TypeId} {p:ah} {cs:List ah} (e:CK P ty ag sz=true) (A:σ.env t=.one p) (hx:loadAt σ.h p sz=some cs):
  ∃v,(w7 a.tmps (.cell t ty)).run P w=.ok v w/\RA w G σ.h (rv ag cs) v:=by
 have l:=r.env t;have o:=r.qq t;rw[A] at l o;have F:p≠ .bC:=by rintro rfl;simp[Am.loadAt] at hx
 obtain⟨b,of,vs,s,D,k,f,h5⟩:=r.hr.loadAt hx (l.gj F).1 (fun m hm=>o m hm);have y:∀n:Nat,n=vs.length->(loadCells (ad b of) n).run P w=.ok vs.toArray w:=fun n hn=>by
  subst hn;exact run_loadCells_list w (ad b of) vs (fun j u C=>by rw[qy];exact k j u C)
 unfold CK at e;cases hu:P.underlying ty with
 |none=>rw[hu] at e;simp at e
 |some d=>
  cases hi:P.info? ty with
  |none=>rw[hu,hi] at e;cases d<;>simp at e
  |some i=>
   rw[hu,hi] at e;have z:(ag=true/\i.size=sz/\(isAgg ty).run P w=.ok true w)\/(ag=false/\sz=1/\(isAgg ty).run P w=.ok false w):=by
    cases d<;>simp at e<;>simp[isAgg,run_underlying hu,e]
   rcases z with⟨rfl,q,g⟩|⟨rfl,q,g⟩
   ·refine⟨.agg vs.toArray,?_,vs,rfl,f⟩;simp[w7,s,loadVar,asAddr,g,sizeOf,typeInfo,hi,y i.size (by omega)]
   ·subst q;match vs,D with
    |[u],_=>
     have H:∃c,cs=[c]:=by
      have:=f.1;match cs,this with
      |[c],_=>exact⟨c,rfl⟩
     obtain⟨c,rfl⟩:=H;have x:=k 0 u rfl;simp only[za9] at x;exact⟨u,by simp[w7,s,loadVar,asAddr,g,x],.inr f⟩
theorem Mc (r:R B E w0 N σ a w G):∀{f:List ResultVar} {ms:List bE} {vs:List ao},nT P f ms=true->σ.rj ms=some vs-> ∃us:List Value,(f.mapM (w7 a.tmps)).run P w=.ok us w/\us.length=vs.length/\us.length=f.length/\∀(j:Nat) (x:ao) (v:Value),vs[j]? =some x->us[j]? =some v->RA w G σ.h x v
 |[],[],vs,b,hx=>by simp only[St.rj] at hx;injection hx with hx;subst hx;exact⟨[],by simp,rfl,rfl,by simp⟩
 |.tmp t::f,.tmp t'::ms,vs,b,hx=>by simp only[nT,co,beq_iff_eq] at b;obtain⟨rfl,b⟩:=b;simp only[St.rj] at hx;split at hx;rename_i k e;injection hx with hx;subst hx;obtain⟨us,i,u2,g,l⟩:=Mc r b e;refine⟨a.tmps.getD t undef::us,by simp[w7,i],by simp[u2],by simp[g],fun j x v d c=>?_⟩;(cases j with|zero=>simp only[zas,zaa] at d c;subst d;subst c;exact r.env t|succ j=>exact l j x v (by simpa using d) (by simpa using c));cases hx
 |.cell t ty::f,.cell t' sz ag::ms,vs,b,hx=>by simp only[nT,co,beq_iff_eq] at b;obtain⟨⟨rfl,o⟩,b⟩:=b;simp only[St.rj] at hx;split at hx;rename_i p n;split at hx;rename_i cs k m q;injection hx with hx;subst hx;obtain⟨us,i,u2,g,l⟩:=Mc r b q;obtain⟨s,y,u⟩:=arh r o n m;refine⟨s::us,by simp[y,i],by simp[u2],by simp[g],fun j x v d c=>?_⟩;(cases j with|zero=>simp only[zas,zaa] at d c;subst d;subst c;exact u|succ j=>exact l j x v (by simpa using d) (by simpa using c));cases hx;cases hx
 |[],_::_,_,b,_=>by simp[nT] at b
 |.tmp _::_,[],_,b,_=>by simp[nT] at b
 |.cell _ _::_,[],_,b,_=>by simp[nT] at b
 |.tmp _::_,.cell _ _ _::_,_,b,_=>by simp[nT] at b
 |.cell _ _::_,.tmp _::_,_,b,_=>by simp[nT] at b
theorem aqe {a:List (K×List PC)}:Ie (a.map sJ)=vw a:=by
 match a with
 |[]=>rfl
 |[p]=>rfl
 |p::q::a=>rfl
theorem Tl (r:R B Ex.no w0 N σ a w G) {fn:Func} {ms:List bE} {ds:List Dv} (o:nT P fn.results.toList ms=true) (hx:σ.sH ms=some ds): ∃c:List (K×List PC),c.map (fun p=>(p.1,p.2.map PC.er))=ds/\(results fn a.tmps).run P w=.ok (vw c) w/\(∀p∈c,p.1≠ .ptr/\(p.1=.one->p.2.length=1))/\ xH w B (c.flatMap (·.2)):=by unfold St.sH at hx;split at hx;rename_i vs s;split at hx;rename_i xS ns y;split at hx;rename_i q;injection hx with hx;subst hx;obtain⟨us,k,u2,_,n⟩:=Mc r o s;obtain⟨c,p1,v,l,p4,p5⟩:=r.hr.pq y u2 n;refine⟨c,p1,?_,l,⟨fun pc g=>(p4.each pc g).e7,fun pc g b d=>((p4.each pc g).new b d).1,fun i j pc dQ b x m z d=>?_⟩⟩;rw[adf fn a.tmps k,<-v,aqe];have e:=p4.oP q;rw[zaI] at e;obtain⟨h,u⟩:=If.1 m;obtain⟨lj,t⟩:=If.1 z;subst u;subst t;rcases za3 x with f|f;exact e i j h lj f b d;exact fun A=>e j i lj h f b A d;cases hx;cases hx;cases hx
theorem aqt (k:m4 P T) (hm:P.follows .mixedOrders=true) {f:FuncId} {fn:Func} {c:Code} {h:kJ} {ms:List bE} {M:List Dv->Option (List Dv)} (s:P.funcs[f]? =some fn) (l:fn.body=some c) (j:jG P fn.ntmps c h=true) (hr:nT P fn.results.toList ms=true) (t:∀ds d,M ds=some d->ds.length<=fn.ntmps/\L7 T h ms ds=some d):dd P f M:=by intro ds d o w vals u;obtain⟨n,g⟩:=t ds d o;refine calls_of_wp s l ?_;have i:=R.init (N:=fn.ntmps) u n;unfold L7 at g;have fz:∀{σ:St} {a:Act} {w':World} {G:Gh},σ.sH ms=some d->R w.heap.size Ex.no w fn.ntmps σ a w' G->a.defers=[]/\∃v,(results fn a.tmps).run P w'=.ok v w'/\ ∃b:List (K×List PC),b.map (fun p=>(p.1,p.2.map PC.er))=d/\(Ending.returned v)=.returned (vw b)/\(∀p∈b,p.1≠ .ptr/\(p.1=.one->p.2.length=1))/\ xH w' w.heap.size (b.flatMap (·.2))/\Fr w.heap.size Ex.no w w':=(by intro σ a w' G hx r;obtain⟨b,p1,q,m,p4⟩:=Tl r hr hx;exact⟨r.defers,_,q,b,p1,rfl,m,p4,r.fr⟩);split at g;rename_i σ e;exact lW k hm h j e i fun a w' G r=>fz g r;rename_i σ e;exact lW k hm h j e i fun a w' G r=>fz g r;cases g
end

def iM:Nat->List (Option Mode)->List C->List ah
 |c,some _::fs,.list sz xs::cs=>.sl (aX+c) sz 0 xs.length::iM (c+1) fs cs
 |c,some _::fs,x::cs=>.bC::iM (c+1) fs cs
 |c,none::fs,x::cs=>.c x::iM c fs cs
 |c,[],cs=>cs.map .c
 |c,_::_,[]=>[]
def FA (c:Nat) (s:List (Option Mode)) (xs:List C):ah:=
 match s with
 |[]=>.di xs 0
 |_::_=>match xs.getLast? with
  |some (.list sz l)=>.cO xs 0 (xs.length - 1) (aX+c) sz l.length
  |_=>.bC
def qz (c:Nat) (s:List (Option Mode)):Dv->ao
 |(.one,xs)=>match iM c s xs with
  |[x]=>.one x
  |_=>.one .bC
 |(.agg,xs)=>.agg (iM c s xs)
 |(.ptr,xs)=>.one (FA c s xs)
def nB:Nat->Nat->bP->List Dv->(Nat->ao)
 |_,_,_,[]=>C0
 |k,c,[],d::ds=>aI (nB (k+1) c [] ds) k (qz c [] d)
 |k,c,s::sig,d::ds=>aI (nB (k+1) (c+(fg s d.2).length) sig ds) k (qz c s d)
def lQ:Mode×C->Option ar
 |(m,.list sz xs)=>some (.row false m sz xs)
 |_=>none
def oz (sig:bP) (ds:List Dv):St:=
 {env:=nB 0 0 sig ds
  h:=fun n=>if aX<=n then((dS sig (ds.map (·.2)))[n - aX]?).bind lQ else none
  used:=fun n=>zaw aX n}
def St.ky (σ:St):St:={σ with h:=fun n=>if aX<=n then none else σ.h n}
def Bh (σ:St) (q:Nat) (x:Mode×C):Option C:=
 match x.2,σ.h (aX+q) with
 |.list sz xs,some (.row _ m' aL av)=>if m'=x.1/\aL=sz/\av.length=xs.length/\uH x.1 av=true/\av.map (fun e=>e.map C.si)=xs.map (fun e=>e.map C.si) then some (.list sz av) else none
 |_,_=>none
def vq (σ:St):Nat->List (Mode×C)->Option (List C)
 |_,[]=>some []
 |q,x::l=>match Bh σ q x,vq σ (q+1) l with
  |some y,some ys=>some (y::ys)
  |_,_=>none
def St.vu (σ:St) (ms:List bE) (fl:List (Mode×C)):Option (List Dv×List C):=
 match σ.ky.sH ms,vq σ 0 fl with
 |some rs,some dN=>some (rs,dN)
 |_,_=>none
def L8 (T:aQ) (mc:kJ) (aC:List bE) (sig:bP) (ds:List Dv):Option (List Dv×List C):=
 match dZ T mc (oz sig ds) with
 |some (.fR σ)=>σ.vu aC (dS sig (ds.map (·.2)))
 |some (.ret σ)=>σ.vu aC (dS sig (ds.map (·.2)))
 |_=>none
section
variable {B:Nat} {E:Ex} {w0 w w':World} {G G':Gh} {N:Nat} {h h':Nat->Option ar} {used:Nat->Bool}
variable {P:Program} {T:aQ} {a:Act} {σ σ':St} {Q:Exit->Act->World->Prop}
def oH:PC->PB
 |.list _ a cap []=>⟨true,0,0,cap,[],a⟩
 |.list _ (some a) cap (e::xs)=>⟨false,a.block,a.off,cap,e::xs,none⟩
 |_=>default
theorem Ek (sz:Nat) (a:Option Addr) (cap:Nat):oH (.list sz a cap [])=⟨true,0,0,cap,[],a⟩:=by cases a<;>rfl
theorem vr {sz b o cap:Nat} {xs:List (List PC)} (h:xs≠[]):oH (.list sz (some (ad b o)) cap xs)=⟨false,b,o,cap,xs,none⟩:=by cases xs with|nil=>exact absurd rfl h|cons e xs=>rfl
theorem Good.cases {w:World} {sz cap:Nat} {a:Option Addr} {xs:List (List PC)} (h:Good w (.list sz a cap xs)):xs=[]\/(xs≠[]/\xs.length<=cap/\∃b o,a=some (ad b o)):=by cases h with|nil _ _ _ h=>exact .inl rfl|cons _ b o _ _ c d=>exact .inr ⟨c,d,b,o,rfl⟩
def rQ (fl:List (Mode×PC)):Ex:=
 ⟨fun b=>∃x∈fl,ba b x.2,fun n=>if aX<=n then(fl[n - aX]?).map fun x=>oH x.2 else none,fun n p h=>(by
  by_cases hn:aX<=n
  ·exact hn
  ·rw[aq hn] at h;cases h),fun _=>True⟩
def mI (w:World) (fl:List (Mode×PC)):Gh:=
 ⟨fun b=>b<w.heap.size/\¬∃x∈fl,ba b x.2,fun n=>match fl[n - aX]? with|some x=>oH x.2|none=>default⟩
def oR (fl:List (Mode×PC)):Nat->Option ar:=fun n=>if aX<=n then((fl.map fun x=>(x.1,x.2.er))[n - aX]?).bind lQ else none
theorem rY {fl:List (Mode×PC)} {n:Nat} {blk:ar} (hn:oR fl n=some blk):aX<=n/\∃m sz a cap xs,fl[n - aX]? =some (m,.list sz a cap xs)/\blk=.row false m sz (xs.map fun e=>e.map PC.er):=by unfold oR at hn;split at hn;rename_i c;refine⟨c,?_⟩;rw[By] at hn;(cases hf:fl[n - aX]? with|none=>rw[hf] at hn;cases hn|some x=>rw[hf] at hn;obtain⟨m,pc⟩:=x;cases pc with|int k i=>simp[PC.er,lQ] at hn|bool b=>simp[PC.er,lQ] at hn|list sz a cap xs=>simp[PC.dW,lQ] at hn;exact⟨m,sz,a,cap,xs,rfl,hn.symm⟩);cases hn
theorem kI.I4 (b o sz cap:Nat) (xs:List (List PC)) (a:cap≠0):kI b (.list sz (some (ad b o)) cap xs):=.inr ⟨_,_,_,_,rfl,a⟩
theorem kI.row {b sz:Nat} {a:Option Addr} {cap:Nat} {xs:List (List PC)} (h:bc b xs):kI b (.list sz a cap xs):=by obtain⟨k,j,c,e,d⟩:=h;exact .inl (.there _ _ _ _ k j c e d)
theorem Sep.row {sz:Nat} {a:Option Addr} {cap:Nat} {xs:List (List PC)} (h:Sep (.list sz a cap xs)):jE xs:=by cases h with|list _ _ _ _ c h2 b=>exact⟨c,b⟩
theorem Good.rowAt {sz b o cap:Nat} {xs:List (List PC)} (h:Good w (.list sz (some (ad b o)) cap xs)):pL w b o sz xs:=by generalize hq:PC.list sz (some (ad b o)) cap xs=q at h;cases h with|int k n=>cases hq|bool b=>cases hq|nil i a s h0=>injection hq with r u m f;subst f;exact⟨by simp,by rintro k j c ⟨e,d,_⟩;simp at d,by rintro k j c ⟨e,d,_⟩;simp at d⟩|cons i b' o' s av r u m f l t=>injection hq with p g e3 e4;injection g with g;obtain⟨rfl,rfl⟩:=lV g;subst p e3 e4;exact⟨f,l,t⟩
theorem HR.Hm {fl:List (Mode×PC)} (F:∀x∈fl,Good w x.2) (D:∀x∈fl,zL w x.1 x.2) (K:fl.Pairwise fun x y=>∀b,ba b x.2->¬ba b y.2): HR w.heap.size (rQ fl) w (mI w fl) (oR fl) (fun n=>zaw aX n) []:=by have oP:∀{i j:Nat} {x y:Mode×PC},fl[i]? =some x->fl[j]? =some y->i≠j->∀b,ba b x.2->¬ba b y.2:=(by intro i j x y q hj jO b d G;obtain⟨li,ei⟩:=If.1 q;obtain⟨lj,ej⟩:=If.1 hj;rw[zaI] at K;subst ei;subst ej;rcases za3 jO with h|h;exact K i j li lj h b d G;exact K j i lj li h b G d);have s:∀{n:Nat} {x:Mode×PC},fl[n - aX]? =some x->(mI w fl).g n=oH x.2:=(by intro n x h;simp only[mI,h]);have I4:∀{x:Mode×PC},x∈fl->(oH x.2).nl=false->ba (oH x.2).b x.2:=(by intro x hx hl;obtain⟨sz,a,cap,xs,e,_,_,_⟩:=(D x hx).eG;have z:=F x hx;rw[e] at hl z⊢;rcases z.cases with rfl|⟨p,_,b,o,rfl⟩;rw[Ek] at hl;cases hl;rw[vr p];exact .here _ _ _ _ p);have R:∀{x:Mode×PC},x∈fl->∀b,bc b (oH x.2).px->ba b x.2:=(by intro x hx b d;obtain⟨sz,a,cap,xs,e,_,_,_⟩:=(D x hx).eG;have z:=F x hx;rw[e] at d z⊢;rcases z.cases with rfl|⟨p,_,b,o,rfl⟩;rw[Ek] at d;obtain⟨k,j,c,⟨e,I,_⟩,_⟩:=d;simp at I;rw[vr p] at d;obtain⟨k,j,c,M,T⟩:=d;exact .there _ _ _ _ k j c M T);have sub:∀{n r:Nat},aX<=n->aX<=r->n≠r->n - aX≠r - aX:=(by intro n r h1 h2 h3;omega);refine⟨fun n hn=>?_,fun m cs c n hm=>?_,fun n cs hn=>?_,fun n H m sz xs hn=>?_,fun n hn hl=>?_,fun n r hn E p hl u=>?_,fun b d=>d.1,fun b _=>.inr (.inr trivial),fun n r H m sz xs br A S t hn E _ _ p b d=>?_, fun n H sz xs hn b d r E u=>?_,(by intro i pc q;simp at q),(by intro i j pc dQ b _ q;simp at q),(by intro i pc n H m sz xs b q;simp at q)⟩;(cases hh:oR fl n with|none=>exact absurd hh hn|some b=>exact zag (rY hh).1);obtain⟨_,A,sz,a,cap,xs,_,e⟩:=rY hm;cases e;obtain⟨_,A,sz,a,cap,xs,_,e⟩:=rY hn;cases e;obtain⟨v,A,S,a,cap,t,f,e⟩:=rY hn;injection e with C e2 e3 e4;subst C e2 e3 e4;have hx:(m,PC.list sz a cap t)∈fl:=BY f;have ok:=D _ hx;have e7:=F _ hx;obtain⟨N,U,L,J,e,X,n9,Y⟩:=ok.eG;injection e with C e2 e3 e4;subst C e2 e3 e4;rw[s f];have P:∀b,bc b t->ba b (PC.list sz a cap t):=fun b ⟨k,j,c,M,T⟩=>.there _ _ _ _ k j c M T;have jg:Js w.heap.size (rQ fl) w (mI w fl) t m:=(by have Z:=Sep.row ok.sep;cases m with|aM=>cases Y|aN=>exact⟨fun b d=>absurd d (y7 Y b),Z⟩|live=>exact⟨fun b d=>⟨fun q=>q.2 ⟨_,hx,P b d⟩,ok.un b (P b d),.inr ⟨_,hx,P b d⟩⟩,Z⟩);rcases e7.cases with rfl|⟨p,jM,b,o,rfl⟩;rw[Ek];exact⟨X,rfl,fun _=>⟨rfl,fun h=>by cases h⟩,(fun h=>by cases h),(fun h=>by cases h),jg,fun h=>by cases h⟩;rw[vr p];exact⟨X,rfl,(fun h=>by cases h),fun _=>⟨ok.un b (.here _ _ _ _ p),Good.rowAt e7,jM⟩,(fun _ h=>by cases h),jg,fun h=>by cases h⟩;(cases hh:oR fl n with|none=>exact absurd hh hn|some blk=>obtain⟨v,A,S,a,cap,t,f,e⟩:=rY hh;have hx:(A,PC.list S a cap t)∈fl:=BY f;rw[s f] at hl⊢;have O:=I4 hx hl;exact⟨fun q=>q.2 ⟨_,hx,O⟩,.inr ⟨_,hx,O⟩,((D _ hx).un _ O).lt⟩);(cases hh:oR fl n with|none=>exact absurd hh hn|some blk=>cases GD:oR fl r with|none=>exact absurd GD E|some Q=>obtain⟨v,m1,ql,W,V,sW,f,_⟩:=rY hh;obtain⟨B,m2,N,U,L,J,l,_⟩:=rY GD;rw[s f] at hl⊢;rw[s l] at u⊢;intro I;exact oP f l (sub v B p) _ (I4 (BY f) hl) (I▸I4 (BY l) u));obtain⟨v,m1,ql,W,V,sW,f,_⟩:=rY hn;obtain⟨B,m2,N,U,L,J,l,_⟩:=rY E;rw[s f] at d;rw[s l];exact fun G=>oP f l (sub v B p) b (R (BY f) b d) (R (BY l) b G);obtain⟨v,m1,ql,W,V,sW,f,_⟩:=rY hn;rw[s f] at d;cases GD:oR fl r with|none=>exact absurd GD E|some Q=>obtain⟨B,m2,N,U,L,J,l,_⟩:=rY GD;rw[s l] at u⊢;rintro rfl;by_cases p:n=r;subst p;rw[f] at l;injection l with l;injection l with _ l;injection l with q1 q2 q3 q4;subst q1 q2 q3 q4;have hm:=BY f;obtain⟨sz,a,cap,xs,e,_,n9,_⟩:=(D _ hm).eG;have z:=F _ hm;injection e with C e2 e3 e4;subst C e2 e3 e4;rcases z.cases with rfl|⟨p,_,b,o,rfl⟩;rw[Ek] at u;cases u;rw[vr p] at d;exact n9 b o rfl d;exact oP f l (sub v B p) _ (R (BY f) _ d) (I4 (BY l) u)
end
section
variable {B:Nat} {E:Ex} {w0 w w':World} {G G':Gh} {N:Nat} {h h':Nat->Option ar} {used:Nat->Bool}
variable {P:Program} {T:aQ} {a:Act} {σ σ':St} {Q:Exit->Act->World->Prop}
theorem PO {α:Type}:∀{s:List (Option Mode)} {xs:List α} {x:Mode×α},x∈fg s xs->x.2∈xs
 |some m::fs,y::xs,x,h=>by simp only[fg,zac] at h;rcases h with rfl|h;simp;exact zaY _ (PO h)
 |none::fs,y::xs,x,h=>by simp only[fg] at h;exact zaY _ (PO h)
 |[],_,x,h=>by simp[fg] at h
 |some m::fs,[],x,h=>by simp[fg] at h
 |none::fs,[],x,h=>by simp[fg] at h
theorem F8 {α:Type}:∀{sig:bP} {xss:List (List α)} {x:Mode×α},x∈dS sig xss->∃xs∈xss,x.2∈xs
 |s::sig,xs::xss,x,h=>by simp only[dS,zai] at h;rcases h with h|h;exact⟨xs,by simp,PO h⟩;obtain⟨ys,b,a⟩:=F8 h;exact⟨ys,by simp[b],a⟩
 |[],_,x,h=>by simp[dS] at h
 |s::sig,[],x,h=>by simp[dS] at h
theorem JA {fl:List (Mode×PC)} (t:∀x∈fl,zL w x.1 x.2) (r:∀x∈fl,Good w x.2):∀(c:Nat) (k:List (Option Mode)) (ps:List PC),(∀(q:Nat) (x:Mode×PC),(fg k ps)[q]? =some x->fl[c+q]? =some x)->(∀pc∈ps,Good w pc)-> (∀pc∈oL k ps,∀x∈fl,∀b,ba b pc->¬ba b x.2)->dA w (mI w fl) (oR fl) (iM c k (ps.map PC.er)) (ps.map PC.val)
 |c,[],ps,hq,fW,hu=>by simp only[iM];refine⟨by simp,fun j x u d i=>?_⟩;simp only[By,zaq] at d i;cases hp:ps[j]? with|none=>rw[hp] at d;cases d|some pc=>rw[hp] at d i;simp at d i;subst d;subst i;have hm:=BY hp;exact⟨PC.kF pc,pc,rfl,rfl,fW pc hm,fun b l=>⟨(fW pc hm).lt l,fun⟨x,hx,s⟩=>hu pc (by simpa[oL] using hm) x hx b l s⟩⟩
 |c,f::k,[],hq,fW,hu=>by cases f<;>exact⟨rfl,by intro j c u d;simp[iM] at d⟩
 |c,none::k,p::ps,hq,fW,hu=>by have n:=JA t r c k ps (fun q x h=>hq q x (by simpa[fg] using h)) (fun pc h=>fW pc (by simp[h])) (fun pc h=>hu pc (by simp[oL,h]));simp only[wt,iM];refine⟨by simp[n.1],fun j x u d i=>?_⟩;cases j with|zero=>simp at d i;subst d;subst i;exact⟨PC.kF p,p,rfl,rfl,fW p (by simp),fun b l=>⟨(fW p (by simp)).lt l,fun⟨x,hx,s⟩=>hu p (by simp[oL]) x hx b l s⟩⟩|succ j=>exact n.2 j x u (by simpa using d) (by simpa using i)
 |c,some m::k,p::ps,hq,fW,hu=>by have v:=hq 0 (m,p) (by simp[fg]);simp only[za9] at v;have y:=BY v;obtain⟨sz,a,cap,xs,e,fc,n9,r5⟩:=(t _ y).eG;simp only at e;subst e;have n:=JA t r (c+1) k ps (fun q x h=>by have:=hq (q+1) x (by simpa[fg] using h);rwa[show c+(q+1)=c+1+q by omega] at this) (fun pc h=>fW pc (by simp[h])) (fun pc h=>hu pc (by simpa[oL] using h));simp only[wt,PC.dW,iM];refine⟨by simp[n.1],fun j x u d i=>?_⟩;cases j with|zero=>simp at d i;subst d;subst i;refine⟨PC.kF _,fun _=>?_⟩;have A:(mI w fl).g (aX+c)=oH (.list sz a cap xs):=(by simp only[mI,zak,v]);rw[A];rcases(r _ y).cases with rfl|⟨z,B,b,o,rfl⟩;rw[Ek];exact .inl ⟨rfl,rfl,rfl,rfl⟩;rw[vr z];exact .inr ⟨rfl,some (ad b o),by simp[PC.val],by simpa using B,fun _=>by simp⟩|succ j=>exact n.2 j x u (by simpa using d) (by simpa using i)
theorem Vo {fl:List (Mode×PC)} (E:∀x∈fl,zL w x.1 x.2) (z:∀x∈fl,Good w x.2) {c:Nat} {s:List (Option Mode)} {d:Dv} {v:Value} {p:PA} (O:zD w d v p)
  (y:∀(q:Nat) (x:Mode×PC),(fg s p.ps)[q]? =some x->fl[c+q]? =some x) (t:∀pc∈oL s p.ps,∀x∈fl,∀b,ba b pc->¬ba b x.2) (S:p.k=.ptr->LU s p.ps.length/\∀x∈fl,¬ba p.b x.2):
  RA w (mI w fl) (oR fl) (qz c s d) v:=by
 obtain⟨k,ps,b,o⟩:=p;obtain⟨rfl,m,l⟩:=O;cases k with
 |one=>
  have l:ps.map PC.val=[v]:=l;have hl:=JA E z c s ps y m t;rw[l] at hl;simp only[qz];obtain⟨x,hx⟩:∃x,iM c s (ps.map PC.er)=[x]:=by
   have:=hl.1;match L:iM c s (ps.map PC.er),this with
   |[x],_=>exact⟨x,rfl⟩
  rw[hx] at hl⊢;exact .inr hl
 |agg=>
  have l:v=.agg (ps.map PC.val).toArray:=l;exact⟨_,l,JA E z c s ps y m t⟩
 |ptr=>
  obtain⟨Q,M,C⟩:v=.pointer (some (ad b o))/\b<w.heap.size/\∀j c,ps[j]? =some c->w.cell? (ad b (o+j))=some c.val:=l;obtain⟨R,J⟩:=S rfl;subst Q;rcases R with rfl|⟨j,r,rfl⟩
  rotate_left
  ·obtain⟨f,q,rfl⟩:∃f q,ps=f++[q]:=⟨ps.dropLast,ps.getLast (by intro e;rw[e] at r;simp at r),(List.dropLast_concat_getLast _).symm⟩;have U:f.length=j:=by
    have:(f++[q]).length=j+1:=r;rw[za4] at this;simpa using this
   subst U;rw[WU] at y;rw[afE] at t;have F:=y 0 (.aN,q) rfl;rw[za9] at F;have H:=BY F;obtain⟨sz,a,cap,xs,e,fc,n9,r5⟩:=(E _ H).eG;simp only at e;subst e;have P:qz c (Pe f.length none++[some .aN]) (K.ptr,(f++[PC.list sz a cap xs]).map PC.er)=.one (.cO ((f++[PC.list sz a cap xs]).map PC.er) 0 f.length (aX+c) sz xs.length):=by
    have B:Pe f.length (none:Option Mode)++[some .aN]≠[]:=by simp
    simp only[qz,FA];split
    ·rename_i L;exact absurd L B
    ·simp[PC.dW]
   rw[P];have A:=C f.length (PC.list sz a cap xs) (by simp);refine RA.gh rfl ⟨b,o,f++[PC.list sz a cap xs],by simp,rfl,⟨M,fun⟨x,hx,h⟩=>J x hx h⟩,fun i n jO D=>?_,_,A,PC.kF _,fun _=>?_⟩
   ·have V:f[i]? =some n:=by
     by_cases T:i<f.length
     ·rwa[zaJ T] at D
     ·have:=(If.1 D).1;rw[za4] at this;simp at this;omega
    have hm:=BY V;have I:n∈f++[PC.list sz a cap xs]:=List.mem_append_left _ hm;exact⟨C i n D,m n I,fun G u=>⟨(m n I).lt u,fun⟨x,hx,h⟩=>t n hm x hx G u h⟩⟩
   ·have N:(mI w fl).g (aX+c)=oH (.list sz a cap xs):=by simp only[mI,zak,F]
    rw[N];rcases(z _ H).cases with rfl|⟨B,W,b,o,rfl⟩
    ·rw[Ek];exact .inl ⟨rfl,rfl,rfl,rfl⟩
    ·rw[vr B];exact .inr ⟨rfl,some (ad b o),by simp[PC.val],by simpa using W,fun _=>by simp⟩
  refine RA.gh rfl ⟨b,o,ps,by simp,rfl,⟨M,fun⟨x,hx,h⟩=>J x hx h⟩,fun j c r=>?_⟩;have hm:=BY r;exact⟨C j c r,m c hm,fun G u=>⟨(m c hm).lt u,fun⟨x,hx,h⟩=>t c (by simpa[oL] using hm) x hx G u h⟩⟩
theorem RW {fl:List (Mode×PC)} (o:∀x∈fl,zL w x.1 x.2) (n:∀x∈fl,Good w x.2):∀(ds:List Dv) (k c:Nat) (sig:bP) (vals:List Value) (a:List PA),vals.length=ds.length->a.length=ds.length->
  (∀(i:Nat) (d:Dv) (v:Value) (p:PA),ds[i]? =some d->vals[i]? =some v->a[i]? =some p->zD w d v p)->(∀(q:Nat) (x:Mode×PC),(dS sig (a.map (·.ps)))[q]? =some x->fl[c+q]? =some x)->
  (∀pc∈qn sig (a.map (·.ps)),∀x∈fl,∀b,ba b pc->¬ba b x.2)->(∀p∈a,p.k=.ptr->∀x∈fl,¬ba p.b x.2)->(∀(i:Nat) (p:PA) (s:List (Option Mode)),a[i]? =some p->sig[i]? =some s->p.k=.ptr->LU s p.ps.length)->
  ∀s,RA w (mI w fl) (oR fl) (nB k c sig ds s) (if k<=s then vals.getD (s - k) undef else undef)
 |[],k,c,sig,vals,a,l1,l2,hA,hq,hu,hp,hs,s=>by simp only[nB];exact Or.inl rfl
 |d::ds,k,c,sig,v::vals,p::a,l1,l2,hA,hq,hu,hp,hs,s=>by
  have z:vals.length=ds.length:=by simpa using l1
  have l:a.length=ds.length:=by simpa using l2
  have r:=hA 0 d v p rfl rfl rfl;have A:=fun i B C E (t:ds[i]? =some B) (u:vals[i]? =some C) (F:a[i]? =some E)=>hA (i+1) B C E (by simpa using t) (by simpa using u) (by simpa using F);have fW:=r.2.1;have G:d.2=p.ps.map PC.er:=by rw[r.1]
  have f:∀x:ao,(s≠k->RA w (mI w fl) (oR fl) x (if k+1<=s then vals.getD (s - (k+1)) undef else undef))->s≠k->RA w (mI w fl) (oR fl) x (if k<=s then(v::vals).getD (s - k) undef else undef):=by
   intro x hx g;have:=hx g;by_cases D:k+1<=s
   ·rw[ak D] at this;rw[ak (by omega),show s - k=(s - (k+1))+1 by omega];simpa using this
   ·rw[aq D] at this;rw[aq (by omega)];exact this
  cases sig with
  |nil=>
   simp only[nB];by_cases g:s=k
   ·subst g;rw[cr,ak (zau _)];simp only[za8,za1];refine Vo o n r (fun q x h=>by simp[fg] at h) (fun pc j=>hu pc ?_) (fun e=>⟨.inl rfl,hp p (by simp) e⟩);simp only[oL] at j;simp[qn,j]
   ·rw[cQ _ _ _ _ g];refine f _ (fun _=>RW o n ds (k+1) c [] vals a z l A (fun q x h=>by simp[dS] at h) (fun pc j=>hu pc ?_) (fun p y=>hp p (by simp[y])) (fun i p s _ h=>by simp at h) s) g;simp only[qn] at j;simp only[wt,qn,List.flatten_cons,zai];exact .inr j
  |cons sg sig=>
   simp only[nB];have m:(fg sg d.2).length=(fg sg p.ps).length:=by rw[G,Ko,AN]
   by_cases g:s=k
   ·subst g;rw[cr,ak (zau _)];simp only[za8,za1];refine Vo o n r (fun q x h=>hq q x ?_) (fun pc j=>hu pc ?_) (fun e=>⟨hs 0 p sg rfl rfl e,hp p (by simp) e⟩)
    ·simp only[wt,dS];rw[zaJ (If.1 h).1];exact h
    ·simp only[wt,qn,zai];exact .inl j
   ·rw[cQ _ _ _ _ g];refine f _ (fun _=>RW o n ds (k+1) (c+(fg sg d.2).length) sig vals a z l A (fun q x h=>?_) (fun pc j=>hu pc ?_) (fun p y=>hp p (by simp[y])) (fun i p s t u=>hs (i+1) p s (by simpa using t) (by simpa using u)) s) g
    ·have:=hq ((fg sg p.ps).length+q) x (by
      simp only[wt,dS];rw[zaF (zaQ _ _),zak];exact h)
     rw[m,Nat.add_assoc];exact this
    ·simp only[wt,qn,zai];exact .inr j
 |_::_,k,c,sig,[],a,l1,l2,hA,hq,hu,hp,hs,s=>by simp at l1
 |_::_,k,c,sig,_::_,[],l1,l2,hA,hq,hu,hp,hs,s=>by simp at l2
theorem Vp {c:Nat} {s:List (Option Mode)} {d:Dv} {m:Nat} (h:(qz c s d).ref m):aX<=m:=by
 have e:∀(cs:List C) (c:Nat) (s:List (Option Mode)),∀x∈iM c s cs,x.ref m->aX<=m:=by
  intro cs;induction cs with
  |nil=>
   intro c s x hx;cases s with
   |nil=>simp[iM] at hx
   |cons f g=>cases f<;>simp[iM] at hx
  |cons y cs a=>
   intro c s x hx hr;cases s with
   |nil=>
    simp only[iM,zad] at hx;obtain⟨z,_,rfl⟩:=hx;exact absurd hr id
   |cons f g=>
    cases f with
    |none=>
     simp only[iM,zac] at hx;rcases hx with rfl|hx
     ·exact absurd hr id
     ·exact a _ _ _ hx hr
    |some md=>
     cases y with
     |list sz xs=>
      simp only[iM,zac] at hx;rcases hx with rfl|hx
      ·have hr:m=aX+c:=hr;omega
      ·exact a _ _ _ hx hr
     |int k n=>
      simp only[iM,zac] at hx;rcases hx with rfl|hx
      ·exact absurd hr id
      ·exact a _ _ _ hx hr
     |bool b=>
      simp only[iM,zac] at hx;rcases hx with rfl|hx
      ·exact absurd hr id
      ·exact a _ _ _ hx hr
 obtain⟨k,xs⟩:=d;cases k with
 |one=>
  simp only[qz] at h;match hh:iM c s xs,h with
  |[],h=>exact absurd h id
  |[x],h=>exact e xs c s x (by rw[hh];simp) h
  |_::_::_,h=>exact absurd h id
 |agg=>
  obtain⟨x,hx,hr⟩:=h;exact e xs c s x hx hr
 |ptr=>
  simp only[qz,FA] at h;split at h
  ·exact absurd h id
  ·split at h
   ·have h':m=aX+c:=h;omega
   ·exact absurd h id
theorem RX:∀{ds:List Dv} {k c:Nat} {sig:bP} {s m:Nat},(nB k c sig ds s).ref m->aX<=m
 |[],k,c,sig,s,m,h=>by simp only[nB] at h;exact absurd h id
 |d::ds,k,c,[],s,m,h=>by simp only[nB,kE] at h;split at h;exact Vp h;exact RX h
 |d::ds,k,c,sg::sig,s,m,h=>by simp only[nB,kE] at h;split at h;exact Vp h;exact RX h
theorem R.Hm {sig:bP} {ds:List Dv} {vals:List Value} {c:List PA} (M:xG w sig ds vals c) (hN:ds.length<=N):
  R w.heap.size (rQ (dS sig (c.map (·.ps)))) w N (oz sig ds) {tmps:=vals.toArray++zar (N - vals.toArray.size) undef,defers:=[]} w (mI w (dS sig (c.map (·.ps)))):=by
 have F:ds.map (·.2)=(c.map (·.ps)).map fun l=>l.map PC.er:=by
  apply zaL;intro i;simp only[By];cases hd:ds[i]? with
  |none=>
   have:ds.length<=i:=zaK.1 hd;rw[zah (by rw[M.l2];exact this)];rfl
  |some d=>
   have o:=(If.1 hd).1;have r:vals[i]? =some (vals[i]'(by rw[M.l1];exact o)):=GB _;have f:c[i]? =some (c[i]'(by rw[M.l2];exact o)):=GB _;have:=(M.at_ i d _ _ hd r f).1;rw[f];simp only[AI];rw[this]
 have C:∀p∈c,∀pc∈p.ps,Good w pc:=by
  intro p f pc H;obtain⟨i,o,rfl⟩:=za2 f;have hd:ds[i]? =some (ds[i]'(by rw[<-M.l2];exact o)):=GB _;have r:vals[i]? =some (vals[i]'(by rw[M.l1,<-M.l2];exact o)):=GB _;exact(M.at_ i _ _ _ hd r (GB o)).2.1 pc H
 have y:∀x∈dS sig (c.map (·.ps)),Good w x.2:=by
  intro x hx;obtain⟨l,hl,E⟩:=F8 hx;obtain⟨p,f,rfl⟩:=zad.1 hl;exact C p f _ E
 have v:(oz sig ds).h=oR (dS sig (c.map (·.ps))):=by
  funext n;simp only[oz,oR,F,C5]
 refine⟨rfl,by simp[M.l1];omega,fun s=>?_,fun s n hn=>zag (RX hn),?_,Fr.refl _ _ _ (zau _),fun n p b f z=>?_,fun n hn=>zag hn⟩
 ·rw[v];have:=RW M.ok y ds 0 0 sig vals c M.l1 M.l2 M.at_ (fun q x h=>by rw[zba];exact h) M.free M.ptr M.ao5 s;simp only[zbe,if_true,zaV] at this;have e:(vals.toArray++zar (N - vals.toArray.size) undef).getD s undef=vals.getD s undef:=by
   simp only[zae,zab];by_cases B:s<vals.length
   ·simp[zay,B]
   ·rw[zah (by omega)];simp only[zay,List.size_toArray,B,if_false,Array.getElem?_replicate];split<;>rfl
  rw[e];exact this
 ·rw[v];exact HR.Hm y M.ok M.oP
 ·rw[v] at z;obtain⟨t,m,sz,a,cap,xs,A,e⟩:=rY z;have u:(if aX<=n then((dS sig (c.map (·.ps)))[n - aX]?).map (fun x=>oH x.2) else none)=some p:=f
  rw[ak t,A] at u;simp at u;subst u;have D:(mI w (dS sig (c.map (·.ps)))).g n=oH (.list sz a cap xs):=by simp only[mI,A]
  rw[D];exact⟨rfl,rfl,rfl,rfl,rfl,fun gr aL av _ k j pc G hL=>⟨pc,G,rfl,hL⟩⟩
theorem LO:∀{fl:List (Mode×C)} {q:Nat} {a:List C},vq σ q fl=some a->a.length=fl.length/\∀i x,fl[i]? =some x->∃o,a[i]? =some o/\Bh σ (q+i) x=some o
 |[],q,a,h=>by simp only[vq] at h;injection h with h;subst h;exact⟨rfl,by simp⟩
 |y::l,q,a,h=>by simp only[vq] at h;split at h;rename_i o os f d;injection h with h;subst h;obtain⟨g,c⟩:=LO d;refine⟨by simp[g],fun i x hx=>?_⟩;(cases i with|zero=>simp at hx;subst hx;exact⟨o,rfl,f⟩|succ i=>obtain⟨j,e,b⟩:=c i x (by simpa using hx);exact⟨j,by simpa using e,by rw[show q+(i+1)=q+1+i by omega];exact b⟩);cases h
theorem apk {q:Nat} {x:Mode×C} {o:C} (h:Bh σ q x=some o):∃sz xs b a,x.2=.list sz xs/\σ.h (aX+q)=some (.row b x.1 sz a)/\a.length=xs.length/\uH x.1 a=true/\a.map (fun e=>e.map C.si)=xs.map (fun e=>e.map C.si)/\o=.list sz a:=by unfold Bh at h;split at h;rename_i sz xs b m' aL a j g;split at h;rename_i c;obtain⟨rfl,rfl,f,i,d⟩:=c;injection h with h;exact⟨_,xs,b,a,j,g,f,i,d,h.symm⟩;cases h;cases h
theorem ahC {px:List (List PC)} (hd:(px.map fun e=>e.map PC.er).all (fun e=>e.all C.uF)=true) {k j:Nat} {c:PC} (h:At px k j c):∀sz a cap ys,c=.list sz a cap ys->∀b,¬bc b ys:=by rintro sz a cap ys rfl b;obtain⟨e,g,f⟩:=h;simp only[IT,zad] at hd;have d:=hd (e.map PC.er) ⟨e,BY g,rfl⟩ (PC.er (.list sz a cap ys)) (zad.2 ⟨_,BY f,rfl⟩);rw[PC.dW] at d;exact y7 d b
theorem PC.alN (c:PC):c.er.si=c.iu:=by cases c with|int k n=>rfl|bool b=>rfl|list sz a cap xs=>rw[PC.dW];rfl
theorem arN {px px':List (List PC)} (m:(px'.map fun e=>e.map PC.er).map (fun e=>e.map C.si)=(px.map fun e=>e.map PC.er).map (fun e=>e.map C.si)) {k j:Nat} {c:PC} (i:At px' k j c): ∃d,At px k j d/\d.iu=c.iu:=by obtain⟨e,h,g⟩:=i;have b:=congrArg (fun l=>l[k]?) m;simp only[By,h,AI] at b;cases h0:px[k]? with|none=>rw[h0] at b;cases b|some f=>rw[h0] at b;simp only[AI,zaa] at b;have a:=congrArg (fun l=>l[j]?) b;simp only[By,g,AI] at a;cases h3:f[j]? with|none=>rw[h3] at a;cases a|some d=>rw[h3] at a;simp only[AI,zaa,PC.alN] at a;exact⟨d,⟨f,h0,h3⟩,a.symm⟩
theorem At.inj {α:Type} {px:List (List α)} {k j:Nat} {c d:α} (h:At px k j c) (h':At px k j d):c=d:=by obtain⟨e,g,f⟩:=h;obtain⟨e',a,b⟩:=h';rw[g] at a;injection a with a;subst a;rw[f] at b;injection b
theorem aay {px px':List (List PC)} (hd:(px.map fun e=>e.map PC.er).all (fun e=>e.all C.uF)=true) (hl:∀k j pc,At px k j pc->pc.iu=true->∃f,At px' k j f/\f.val=pc.val/\f.iu=true) {b:Nat} (p:bc b px):bc b px':=by obtain⟨k,j,c,l,d⟩:=p;cases c with|int k n=>exact absurd d ba.ao7|bool x=>exact absurd d ba.ao6|list sz a cap ys=>have u:=ahC hd l sz a cap ys rfl;rw[ba.lK] at d;rcases d with⟨q,o,rfl⟩|⟨k',s,h,v,w⟩;obtain⟨h,t,m,i⟩:=hl k j _ l rfl;(cases h with|int k n=>cases i|bool x=>cases i|list aL a' lk ys'=>simp only[PC.val] at m;injection m with r e2 e3;subst r;refine⟨k,j,_,t,?_⟩;rw[ba.lK];refine .inl ⟨fun g=>?_,o,rfl⟩;subst g;exact q (OF e2.symm));exact absurd ⟨k',s,h,v,w⟩ (u b)
end
section
variable {B:Nat} {E:Ex} {w0 w w':World} {G G':Gh} {N:Nat} {h h':Nat->Option ar} {used:Nat->Bool}
variable {P:Program} {T:aQ} {a:Act} {σ σ':St} {Q:Exit->Act->World->Prop}
theorem wW {n:Nat} {b:ar} (hn:σ.ky.h n=some b):¬aX<=n/\σ.h n=some b:=by unfold St.ky at hn;simp only at hn;split at hn;cases hn;rename_i h;exact⟨h,hn⟩
theorem Eg {n:Nat} (hn:σ.ky.h n≠none):¬aX<=n/\σ.h n≠none:=by cases h:σ.ky.h n with|none=>exact absurd h hn|some b=>obtain⟨a,e⟩:=wW h;exact⟨a,by rw[e];simp⟩
theorem bu.ky (u:Nat->Prop):bu w G σ.h u w G σ.ky.h:= ⟨fun _ h=>h,fun _ _ _=>rfl,fun n _ hn=>⟨(Eg hn).2,rfl,rfl,rfl,rfl,rfl⟩,fun n a sz xs _ hn=>⟨⟨a,xs,(wW hn).2⟩,fun k j pc c b=>⟨pc,c,rfl,b⟩⟩⟩
theorem R.ky (r:R B E w0 N σ a w G) (O:∀b,E b->∃n f m sz xs,aX<=n/\σ.h n=some (.row f m sz xs)/\m≠ .aM/\n4 G n b/\(m=.aN->¬bc b (G.g n).px)): R B Ex.no w N σ.ky a w G:=by have H:=r.hr;have K:bu w G σ.h (fun n=>σ.used n=true) w G σ.ky.h:=bu.ky _;have F:∀n,¬aX<=n->σ.h n≠none->(G.g n).nl=false->¬E (G.g n).b:=(by intro n hn k hl d;obtain⟨q,f,m,sz,xs,z,C,I,t,M⟩:=O _ d;have D:n≠q:=fun e=>hn (e▸z);have V:σ.h q≠none:=(by rw[C];simp);rcases t with⟨l,e⟩|t;exact H.inj n q k V D hl l e;cases m with|aM=>exact I rfl|aN=>exact M rfl t|live=>exact H.live q f sz xs C _ t n k hl rfl);have P:∀n f m sz xs,¬aX<=n->σ.h n=some (.row f m sz xs)->m≠ .aM->∀b,bc b (G.g n).px->¬E b:=(by intro n f m sz xs hn k hm b d o;obtain⟨q,T,S,J,L,z,C,I,t,M⟩:=O _ o;have D:n≠q:=fun e=>hn (e▸z);exact H.Ya D k C hm I (.inr d) t);refine⟨r.defers,r.size,fun s=>(r.env s).gf K fun m hm=>r.qq s m hm,r.qq,?_,Fr.refl _ _ _ r.fr.size,fun n p b u=>(by cases u),r.wY⟩;refine⟨fun n hn=>H.jp n (Eg hn).2,fun m cs c n hm Y hr=>H.iK m cs c n (wW hm).2 Y hr,fun n cs hn=>?_,fun n f m sz xs hn=>?_,fun n hn hl=>?_,fun n y hn A=>H.inj n y (Eg hn).2 (Eg A).2, H.gN,fun b _=>.inr (.inr trivial),fun n y f m sz xs T S J L hn A=>H.gw n y f m sz xs T S J L (wW hn).2 (wW A).2,fun n f sz xs hn b d y A=>H.live n f sz xs (wW hn).2 b d y (Eg A).2,?_,?_,?_⟩;obtain⟨W,a2,Z⟩:=H.box n cs (wW hn).2;refine⟨W,a2,fun j c Q=>?_⟩;obtain⟨v,X,b2,b3⟩:=Z j c Q;exact⟨v,X,b2,b3.gf K fun q z=>H.iK n cs c q (wW hn).2 (BY Q) z⟩;obtain⟨u,k⟩:=wW hn;have hr:=H.row n f m sz xs k;refine⟨hr.pos,hr.er,hr.nl,hr.eG,hr.room,?_,hr.nr⟩;have hm:=hr.mode;(cases m with|aM=>exact hm|aN=>exact⟨fun b d=>⟨(hm.1 b d).1,(hm.1 b d).2.1,(hm.1 b d).2.2.imp id fun o=>absurd o (P n f .aN sz xs u k (by simp) b d)⟩,hm.2⟩|live=>exact⟨fun b d=>⟨(hm.1 b d).1,(hm.1 b d).2.1,(hm.1 b d).2.2.imp id fun o=>absurd o (P n f .live sz xs u k (by simp) b d)⟩,hm.2⟩);obtain⟨u,k⟩:=Eg hn;obtain⟨o1,o2,U⟩:=H.own n k hl;exact⟨o1,o2.imp id fun o=>absurd o (F n u k hl),U⟩;intro i pc x;simp at x;intro i j pc dQ b _ x;simp at x;intro i pc n f m sz xs b x;simp at x
theorem ajN {m:Mode} {px:List (List PC)} (a:uH m (px.map fun e=>e.map PC.er)=true):(m=.aN->∀b,¬bc b px)/\m≠ .aM/\(m=.live->(px.map fun e=>e.map PC.er).all (fun e=>e.all C.uF)=true):=by cases m with|aM=>cases a|aN=>exact⟨fun _ b=>y7 a b,(by simp),fun h=>(by cases h)⟩|live=>exact⟨fun h=>(by cases h),(by simp),fun _=>a⟩
theorem Fz {fl:List (Mode×PC)} (fO:∀x∈fl,zL w0 x.1 x.2) (hg:∀x∈fl,Good w0 x.2) (r:R B (rQ fl) w0 N σ a w G) {dN:List C} (ho:vq σ 0 (fl.map fun x=>(x.1,x.2.er))=some dN)
  {i:Nat} {x:Mode×PC} (hx:fl[i]? =some x):∃q o,dN[i]? =some o/\q.er=o/\qx w x.1 x.2 q/\
   ∃s sz xs,σ.h (aX+i)=some (.row s x.1 sz xs)/\(∀b,ba b x.2->n4 G (aX+i) b)/\(x.1=.aN->∀b,¬bc b (G.g (aX+i)).px)/\x.1≠ .aM:=by
 obtain⟨m,pc⟩:=x;have x9:=BY hx;obtain⟨o1,o2⟩:=LO ho;obtain⟨o,e1,e2⟩:=o2 i (m,pc.er) (by rw[By,hx];rfl);rw[zba] at e2;obtain⟨sz,xs,s,z,f1,A,f3,M,f5,rfl⟩:=apk e2;have ok:=fO _ x9;have Z:=hg _ x9;obtain⟨p,a0,cap,H,rfl,fc,n9,r5⟩:=ok.eG;simp only[PC.dW] at f1;injection f1 with U f1b;subst U;subst f1b;have hr:=r.hr.row _ s m p z A;have oV:(rQ fl).pi (aX+i)=some (oH (.list p a0 cap H)):=by
  show(if aX<=aX+i then(fl[aX+i - aX]?).map (fun x=>oH x.2) else none)=_
  rw[ak (zaQ _ _),zak,hx];rfl
 obtain⟨p1,D,S,p4,p6,p5⟩:=r.pi _ _ _ oV A;have y:z=(G.g (aX+i)).px.map fun e=>e.map PC.er:=hr.er;have J:=M;simp only at J;rw[y] at J;obtain⟨L,v,q3⟩:=ajN J;have d:(G.g (aX+i)).px.length=H.length:=by
  have:=f3;rw[y] at this;simpa using this
 have Zd:jE (G.g (aX+i)).px:=by
  have hm:=hr.mode;cases m with
  |aM=>exact absurd rfl v
  |aN=>exact hm.2
  |live=>exact hm.2
 have aJ:σ.h (aX+i)≠none:=by rw[A];simp
 rcases Z.cases with rfl|⟨K,jM,b,o,rfl⟩
 ·have Za:(G.g (aX+i)).px=[]:=OF (by rw[d];rfl);refine⟨.list p a0 cap [],_,e1,(by rw[PC.dW,y,Za]),⟨rfl,.nil _ _ _ fc,ok.sep,fun _ h=>h,?_,?_⟩,s,p,z,A,fun l f=>?_,fun hm l f=>L hm l f,v⟩
  ·simp only[PC.dW];rw[y,Za] at M;exact M
  ·intro sz a cap xs aL a' lk jl I F;have F:=I.symm.trans F;injection F with P h2 h3 h4;refine⟨P.symm,h2.symm,h3.symm,by rw[h4],fun _ k j c n hL=>?_⟩;injection I with _ _ _ h5;subst h5;obtain⟨e,t,_⟩:=n;simp at t
  ·rw[ba.lK] at f;rcases f with⟨f,_⟩|⟨k,j,c,⟨e,t,_⟩,_⟩
   ·exact absurd rfl f
   ·simp at t
 ·have T:m=.live->∀k j c,At H k j c->c.iu=true->∃Q,At (G.g (aX+i)).px k j Q/\Q.val=c.val/\Q.iu=true:=by
   rintro rfl k j c n hL;rw[vr K] at p5;exact p5 s p z rfl k j c n hL
  rw[vr K] at p1 D S p4;simp only at p1 D S p4;obtain⟨l1,l2,l3⟩:=hr.eG p1;rw[D] at l1 l2;rw[S] at l2;rw[p4] at l3;have W:(G.g (aX+i)).px≠[]:=by
   intro h0;rw[h0] at d;exact K (OF d.symm)
  have gp:Good w (.list p (some (ad b o)) cap (G.g (aX+i)).px):=.cons _ _ _ _ _ W l3 fc l2.1 l2.2.1 l2.2.2;have O:¬bc b (G.g (aX+i)).px:=by
   intro hb;cases m with
   |aM=>exact v rfl
   |aN=>exact L rfl b hb
   |live=>exact r.hr.live _ s p z A b hb _ aJ p1 D.symm
  have X:m=.live->∀l,bc l (G.g (aX+i)).px->bc l H:=by
   rintro rfl l f;refine aay (px':=H) (q3 rfl) (fun k j c n hL=>?_) f;rw[y] at f5;obtain⟨c0,YW,V⟩:=arN f5 n;rw[hL] at V;obtain⟨c1,QI,kQ,hL1⟩:=T rfl k j c0 YW V;rw[At.inj QI n] at kQ;exact⟨c0,YW,kQ.symm,V⟩
  refine⟨.list p (some (ad b o)) cap (G.g (aX+i)).px,_,e1,by rw[PC.dW,y],⟨by simp only[PC.val,d],gp,.list _ _ _ _ Zd.1 (fun b1 o1 k j c t n Y=>?_) Zd.2,fun l f=>?_,?_,?_⟩,s,p,z,A,fun l f=>?_,L,v⟩
  ·injection t with t;obtain⟨rfl,_⟩:=lV t;exact O ⟨k,j,c,n,Y⟩
  ·rw[ba.lK] at f;rcases f with⟨_,o',u⟩|E
   ·injection u with u;rw[<-(lV u).1];exact .here _ _ _ _ K
   ·cases m with
    |aM=>exact absurd rfl v
    |aN=>exact absurd E (L rfl l)
    |live=>
     obtain⟨k,j,c,n,hc⟩:=X rfl l E;exact .there _ _ _ _ k j c n hc
  ·simp only[PC.dW];exact J
  ·intro sz a lk xs aL a' ata jl I F;injection I with P h2 h3 h4;injection F with g1 g2 g3 g4;subst P h2 h3 h4 g1 g2 g3 g4;exact⟨rfl,rfl,rfl,d,T⟩
  ·rw[ba.lK] at f;rcases f with⟨_,o',u⟩|E
   ·injection u with u;exact .inl ⟨p1,by rw[D];exact(lV u).1.symm⟩
   ·cases m with
    |aM=>exact absurd rfl v
    |aN=>exact absurd E (y7 r5 l)
    |live=>exact .inr (aay r5 (T rfl) E)
theorem anI (W:m4 P T) (hm:P.follows .mixedOrders=true) {f:FuncId} {fn:Func} {c:Code} {D:kJ} {ms:List bE} {sig:bP} {M:List Dv->Option (List Dv×List C)} (hf:P.funcs[f]? =some fn) (hb:fn.body=some c)
  (X:jG P fn.ntmps c D=true) (hr:nT P fn.results.toList ms=true) (hM:∀ds A t,M ds=some (A,t)->ds.length<=fn.ntmps/\L8 T D ms sig ds=some (A,t)):sZ P f sig M:=by
 intro ds A t kN w vals u k;obtain⟨Y,s⟩:=hM ds A t kN;refine calls_of_wp hf hb ?_;have J:=R.Hm (N:=fn.ntmps) k Y;have Z:∀p∈u,∀pc∈p.ps,Good w pc:=by
  intro p z pc cg;obtain⟨i,j,rfl⟩:=za2 z;have hd:ds[i]? =some (ds[i]'(by rw[<-k.l2];exact j)):=GB _;have U:vals[i]? =some (vals[i]'(by rw[k.l1,<-k.l2];exact j)):=GB _;exact(k.at_ i _ _ _ hd U (GB j)).2.1 pc cg
 have H:∀x∈dS sig (u.map (·.ps)),Good w x.2:=by
  intro x hx;obtain⟨l,hl,o6⟩:=F8 hx;obtain⟨p,z,rfl⟩:=zad.1 hl;exact Z p z _ o6
 have Gw:ds.map (·.2)=(u.map (·.ps)).map fun l=>l.map PC.er:=by
  apply zaL;intro i;simp only[By];cases hd:ds[i]? with
  |none=>
   have:ds.length<=i:=zaK.1 hd;rw[zah (by rw[k.l2];exact this)];rfl
  |some d=>
   have j:=(If.1 hd).1;have U:vals[i]? =some (vals[i]'(by rw[k.l1];exact j)):=GB _;have z:u[i]? =some (u[i]'(by rw[k.l2];exact j)):=GB _;have:=(k.at_ i d _ _ hd U z).1;rw[z];simp only[AI];rw[this]
 unfold L8 at s;rw[Gw,C5] at s;generalize jY:dS sig (u.map (·.ps))=fl at s J H;have V:=k.ok;rw[jY] at V;have fz:∀{σ:St} {a:Act} {w':World} {G:Gh},σ.vu ms (fl.map fun x=>(x.1,x.2.er))=some (A,t)->R w.heap.size (rQ fl) w fn.ntmps σ a w' G->a.defers=[]/\∃v,(results fn a.tmps).run P w'=.ok v w'/\
   ∃y:List (K×List PC),y.map (fun p=>(p.1,p.2.map PC.er))=A/\(Ending.returned v)=.returned (vw y)/\(∀p∈y,p.1≠ .ptr/\(p.1=.one->p.2.length=1))/\
   xH w' w.heap.size (y.flatMap (·.2))/\Fr w.heap.size (xU fl) w w'/\
   ∃F:List PC,F.map PC.er=t/\F.length=fl.length/\∀(i:Nat) (x:Mode×PC) (q:PC),fl[i]? =some x->F[i]? =some q->qx w' x.1 x.2 q:=by
  intro σ a w' G hx r;unfold St.vu at hx;split at hx
  ·rename_i pz SZ e1 S;injection hx with hx;injection hx with j4 eA;subst j4 eA;have hE:∀b,(rQ fl) b->∃n E m sz xs,aX<=n/\σ.h n=some (.row E m sz xs)/\m≠ .aM/\n4 G n b/\(m=.aN->¬bc b (G.g n).px):=by
    rintro b ⟨x,tH,yi⟩;obtain⟨i,j⟩:=List.getElem?_of_mem tH;obtain⟨q,o,_,_,_,E,sz,xs,O,L,I,k4⟩:=Fz V H r S j;exact⟨aX+i,E,x.1,sz,xs,zaQ _ _,O,k4,L b yi,fun hm=>I hm b⟩
   obtain⟨y,p1,p2,p3,p4⟩:=Tl (r.ky hE) hr e1;obtain⟨ol,_⟩:=LO S;have Q:∀i:Fin fl.length,∃q,SZ[i.1]? =some (PC.er q)/\qx w' (fl[i.1]).1 (fl[i.1]).2 q:=by
    intro i;obtain⟨q,o,O,L,I,_⟩:=Fz V H r S (GB i.2);exact⟨q,by rw[O,L],I⟩
   refine⟨r.defers,_,p2,y,p1,rfl,p3,p4,⟨r.fr.os,r.fr.tape,r.fr.output,r.fr.size,r.fr.block,r.fr.kD⟩,List.ofFn fun i=>Classical.choose (Q i),?_,by simp,fun i x q j B=>?_⟩
   ·apply zaL;intro i;simp only[By];by_cases j:i<fl.length
    ·rw[za5,dif_pos j];exact(zaW (Q ⟨i,j⟩)).1.symm
    ·rw[zah (by simp;omega),zah (by rw[ol];simp;omega)];rfl
   ·obtain⟨hl,e⟩:=If.1 j;rw[za5,dif_pos hl] at B;injection B with B;subst B;subst e;exact(zaW (Q ⟨i,hl⟩)).2
  ·cases hx
 split at s
 ·rename_i σ e;exact lW W hm D X e J fun a w' G r=>fz s r
 ·rename_i σ e;exact lW W hm D X e J fun a w' G r=>fz s r
 ·cases s
end
section
variable {B:Nat} {E:Ex} {w0 w w':World} {G G':Gh} {N:Nat} {h h':Nat->Option ar} {used:Nat->Bool}
variable {P:Program} {T:aQ} {a:Act} {σ σ':St} {Q:Exit->Act->World->Prop}
end
def _root_.Option.ae {α β:Type} (o:Option α) (f:α->Option β):Option β:=o.bind f
def au {α:Type} (b:Bool) (x y:α):α:=cond b x y
def cH (k:IntKind) (a b:Int):Int:=k.wrap (a+b)
def t5 (k:IntKind) (a b:Int):Int:=k.wrap (a - b)
def mP (k:IntKind) (a b:Int):Int:=k.wrap (a*b)
def aoW (k:IntKind) (a:Int):Int:=k.wrap (0 - a)
def agu (k:IntKind) (a b:Int):Int:=bits .and k a b
def yW (k:IntKind) (a b:Int):Int:=bits .or k a b
def as6 (k:IntKind) (a b:Int):Int:=bits .xor k a b
def bR (a b:Int):Bool:=a==b
def ff (a b:Int):Bool:=a !=b
def bF (a b:Int):Bool:=decide (a<b)
def gO (a b:Int):Bool:=decide (a<=b)
def eqB (a b:Bool):Bool:=a==b
def HY (a b:Bool):Bool:=a !=b
def dh (a:Bool):Bool:= !a
def sx (a b:Int):Int:=if a<b then b else a
def oE (a b:Int):Int:=if b<a then b else a
def af {α:Type} (xs:List α):Nat:=xs.length
def aU (n:Nat):Int:=(n:Int)
def aE (a b:Nat):Nat:=a+b
def cP {α:Type} (xs:List α) (k:Nat):Option α:=xs[k]?
def bh {α:Type} (xs:List α) (k:Nat) (x:α):List α:=xs.set k x
def eR {α:Type} (xs ys:List α):List α:=xs++ys
def dn {α:Type} (n:Nat) (x:α):List α:=Pe n x
def iy {α:Type} (xs:List α) (lo len:Nat):List α:=(xs.drop lo).take len
def cW {α:Type} (xs:List α) (i:Int):Option α:=if 0<=i then xs[i.toNat]? else none
def dw (i:Int) (len:Nat):Option Nat:=if 0<=i/\i<len then some i.toNat else none
def iY (lo hi:Int) (len:Nat):Option (Nat×Nat):=if 0<=lo/\lo<=hi/\hi<=len then some (lo.toNat,(hi - lo).toNat) else none
def cM {α:Type} (xs:List α) (lo len:Nat):Option (List α):=if lo+len<=xs.length then some ((xs.drop lo).take len) else none
def d9 {α:Type} (xs:List α) (len:Nat):Option (List α):=if len<=xs.length then some (xs.take len) else none
def Ad {α:Type} (xs:List α) (lo len:Nat) (ys:List α):Option (List α):=if lo+len<=xs.length then some (xs.take lo++ys++xs.drop (lo+ys.length)) else none
def mr (a b:Int) (by_:Nat):Option Nat:=if a<=b/\0<=a/\b.toNat*by_<=fQ then some a.toNat else none
def n3 (n by_:Nat):Option Unit:=if n*by_<=fQ then some () else none
def mz (a b:Nat):Option Unit:=if a=b then some () else none
def bj (lo len l:Nat):Option Unit:=if lo=0/\len=l then some () else none
abbrev U:=List Int
abbrev aB {α β:Type} (l:List α) (k:Option β):Option β:=(bj 0 (af l) (af l)).ae fun _=>k
def acN (k:IntKind) (a b:Int):Option Int:=if b=0 then none else some (k.wrap (a.tdiv b))
def w6 (a b:Int):Option Int:=if b=0 then none else some (a.tmod b)
def zl (k:IntKind) (a b:Int):Option Int:=if b<0 then none else some (k.wrap (a*2^(min b.toNat k.bits)))
def aeI (k:IntKind) (a b:Int):Option Int:=if b<0 then none else some (a/(2^(min b.toNat k.bits)))
def cd {X Y:Type}:Nat->(X->Option (X⊕Y))->X->Option Y
 |0,_,_=>none
 |n+1,f,x=>match f x with
  |some (.inl x')=>cd n f x'
  |some (.inr y)=>some y
  |none=>none
def cT {X ρ:Type} (o:Option (X⊕ρ)) (k:X->Option ρ):Option ρ:=o.bind fun s=>Sum.casesOn s k some
theorem eC {α β:Type} {o:Option α} {f:α->Option β} {b:β}:o.ae f=some b↔∃a,o=some a/\f a=some b:=Option.bind_eq_some_iff
theorem JW {α:Type} (x y:α):au true x y=x:=rfl
theorem FK {α:Type} (x y:α):au false x y=y:=rfl
inductive Ty where
 |int (k:IntKind)
 |bool
 |list (ts:List Ty)
instance:Inhabited Ty:=⟨.bool⟩
mutual
def Ty.beq:Ty->Ty->Bool
 |.int k,.int k'=>decide (k=k')
 |.bool,.bool=>true
 |.list ts,.list us=>Ty.oN ts us
 |_,_=>false
def Ty.oN:List Ty->List Ty->Bool
 |[],[]=>true
 |t::ts,u::us=>Ty.beq t u&&Ty.oN ts us
 |_,_=>false
end
mutual
theorem Ty.beq_eq:∀{t u:Ty},Ty.beq t u=true->t=u
 |.int k,.int k',h=>by simp[Ty.beq] at h;rw[h]
 |.bool,.bool,_=>rfl
 |.list ts,.list us,h=>by simp only[Ty.beq] at h;rw[Ty.m8 h]
 |.int _,.bool,h=>by simp[Ty.beq] at h
 |.int _,.list _,h=>by simp[Ty.beq] at h
 |.bool,.int _,h=>by simp[Ty.beq] at h
 |.bool,.list _,h=>by simp[Ty.beq] at h
 |.list _,.int _,h=>by simp[Ty.beq] at h
 |.list _,.bool,h=>by simp[Ty.beq] at h
theorem Ty.m8:∀{ts us:List Ty},Ty.oN ts us=true->ts=us
 |[],[],_=>rfl
 |t::ts,u::us,h=>by simp only[Ty.oN,co] at h;rw[Ty.beq_eq h.1,Ty.m8 h.2]
 |[],_::_,h=>by simp[Ty.oN] at h
 |_::_,[],h=>by simp[Ty.oN] at h
end
mutual
def Ty.D:Ty->Type
 |.int _=>Int
 |.bool=>Bool
 |.list ts=>List (Ty.DL ts)
def Ty.DL:List Ty->Type
 |[]=>Unit
 |t::ts=>match ts with
  |[]=>Ty.D t
  |u::us=>Ty.D t×Ty.DL (u::us)
end
mutual
def Ty.er:(t:Ty)->t.D->C
 |.int k,n=>.int k n
 |.bool,b=>.bool b
 |.list ts,xs=>.list ts.length (AT (Ty.aA ts) xs)
def Ty.aA:(ts:List Ty)->Ty.DL ts->List C
 |[],_=>[]
 |[t],x=>[Ty.er t x]
 |t::u::ts,x=>Ty.er t x.1::Ty.aA (u::ts) x.2
end
def Ty.cast (t u:Ty) (x:t.D):Option u.D:=if h:Ty.beq t u=true then some (Ty.beq_eq h▸x) else none
theorem Ty.O1 {t u:Ty} {x:t.D} {y:u.D} (h:Ty.cast t u x=some y):t.er x=u.er y:=by unfold Ty.cast at h;split at h;rename_i a;have:=Ty.beq_eq a;subst this;injection h with h;rw[<-h];cases h
def Ty.rI (ts us:List Ty) (x:Ty.DL ts):Option (Ty.DL us):=if h:Ty.oN ts us=true then some (Ty.m8 h▸x) else none
theorem Ty.ag5 {ts us:List Ty} {x:Ty.DL ts} {y:Ty.DL us} (h:Ty.rI ts us x=some y):Ty.aA ts x=Ty.aA us y/\ts=us:=by unfold Ty.rI at h;split at h;rename_i a;have:=Ty.m8 a;subst this;injection h with h;rw[<-h];exact⟨rfl,rfl⟩;cases h
theorem Ty.pP:∀(ts:List Ty) (x:Ty.DL ts),(Ty.aA ts x).length=ts.length
 |[],_=>rfl
 |[t],_=>rfl
 |t::u::ts,x=>by simp only[Ty.aA,zbc,Ty.pP (u::ts) x.2]
def Ty.eX:Ty->Bool
 |.list _=>false
 |_=>true
theorem Ty.y8 (t:Ty) (x:t.D):(t.er x).eX=t.eX:=by cases t<;>rfl
def Ty.e9 (ts:List Ty):Bool:=ts.all Ty.eX
theorem Ty.Bo:∀(ts:List Ty) (x:Ty.DL ts),Am.e9 (Ty.aA ts x)=Ty.e9 ts
 |[],_=>rfl
 |[t],x=>by simp[Am.e9,Ty.aA,Ty.e9];exact Ty.y8 t x
 |t::u::ts,x=>by have:=Ty.Bo (u::ts) x.2;simp only[Am.e9,Ty.e9] at this;simp only[Am.e9,Ty.e9,Ty.aA,zao,Ty.y8] at this⊢;rw[this]
inductive SC where
 |v (t:Ty) (x:t.D)
 |nil (ts:List Ty)
 |ptr (n k sz off:Nat)
 |di (ts:List Ty) (x:Ty.DL ts) (off:Nat)
 |sl (n sz lo len:Nat)
 |bz (n k aD off sz len:Nat)
 |cX (n k aD off sz i:Nat)
 |cO (ts:List Ty) (x:Ty.DL ts) (off j n sz len:Nat)
 |fn (f:FuncId) (dR:List SC)
 |bC
instance:Inhabited SC:=⟨.bC⟩
mutual
def SC.er:SC->ah
 |.v t x=>.c (t.er x)
 |.nil ts=>.nil ts.length
 |.ptr n k sz off=>.ptr n k sz off
 |.di ts x off=>.di (Ty.aA ts x) off
 |.sl n sz lo len=>.sl n sz lo len
 |.bz n k aD off sz len=>.bz n k aD off sz len
 |.cX n k aD off sz i=>.cX n k aD off sz i
 |.cO ts x off j n sz len=>.cO (Ty.aA ts x) off j n sz len
 |.fn f dR=>.fn f (SC.Kg dR)
 |.bC=>.bC
def SC.Kg:List SC->List ah
 |[]=>[]
 |c::cs=>SC.er c::SC.Kg cs
end
theorem SC.Kh (cs:List SC):SC.Kg cs=cs.map SC.er:=by induction cs with|nil=>rfl|cons c cs a=>simp[SC.Kg,a]
inductive SB where
 |box (cs:List SC)
 |row (gr:Bool) (m:Mode) (ts:List Ty) (xs:List (Ty.DL ts))
 |eP (ts:List Ty) (x:Ty.DL ts)
def SB.er:SB->ar
 |.box cs=>.box (cs.map SC.er)
 |.row gr m ts xs=>.row gr m ts.length (AT (Ty.aA ts) xs)
 |.eP ts x=>.box ((Ty.aA ts x).map .c)
inductive SV where
 |one (c:SC)
 |agg (cs:List SC)
 |bH (xs:List (Bool×List SC))
 |arr (ts:List Ty) (x:Ty.DL ts)
 |kZ (ts:List Ty) (x:Ty.DL ts) (xs:List (Bool×List SC))
instance:Inhabited SV:=⟨.one .bC⟩
def SV.er:SV->ao
 |.one c=>.one c.er
 |.agg cs=>.agg (cs.map SC.er)
 |.bH xs=>.bH (xs.map fun x=>(x.1,x.2.map SC.er))
 |.arr ts x=>.agg ((Ty.aA ts x).map .c)
 |.kZ ts x xs=>.bH ((true,(Ty.aA ts x).map .c)::xs.map fun x=>(x.1,x.2.map SC.er))
structure ai where
 env:Nat->SV
 h:Nat->Option SB
 used:Nat->Bool
def tn (env:Nat->SV):Nat->ao:=fun s=>(env s).er
def dO (h:Nat->Option SB):Nat->Option ar:=fun n=>(h n).map SB.er
def ai.er (σ:ai):St:={env:=tn σ.env,h:=dO σ.h,used:=σ.used}
theorem C2 (env:Nat->SV) (n:Nat) (v:SV):tn (aI env n v)=aI (tn env) n v.er:=by funext s;simp only[tn,kE];split<;>rfl
theorem Kd (h:Nat->Option SB) (n:Nat) (v:Option SB):dO (aI h n v)=aI (dO h) n (v.map SB.er):=by funext s;simp only[dO,kE];split<;>rfl
def ai.put (σ:ai) (d:Option Nat) (v:SV):ai:=
 match d with
 |some n=>{σ with env:=aI σ.env n v}
 |none=>σ
def ai.ins (σ:ai) (n:Nat) (b:SB):Option ai:=
 match σ.used n with
 |true=>none
 |false=>some {σ with h:=aI σ.h n (some b),used:=aI σ.used n true}
def ai.ef (σ:ai) (n:Nat) (b:SB):ai:={σ with h:=aI σ.h n (some b)}
def ai.del (σ:ai) (n:Nat):ai:={σ with h:=aI σ.h n none}
theorem ai.ew (σ:ai) (d:Option Nat) (v:SV):(σ.put d v).er=σ.er.put d v.er:=by cases d with|none=>rfl|some n=>simp only[ai.put,ai.er,St.put,C2]
theorem ai.tp {σ σ1:ai} {n:Nat} {b:SB} (h:σ.ins n b=some σ1):σ.er.ins n b.er=some σ1.er:=by unfold ai.ins at h;split at h;cases h;rename_i a;injection h with h;subst h;simp[St.ins,ai.er,a,Kd]
theorem ai.oQ (σ:ai) (n:Nat) (b:SB):(σ.ef n b).er=σ.er.ef n b.er:=by simp[ai.ef,ai.er,St.ef,Kd]
theorem ai.Kf (σ:ai) (n:Nat):(σ.del n).er=σ.er.del n:=by simp[ai.del,ai.er,St.del,Kd]
def Ty.cells:(ts:List Ty)->Ty.DL ts->List SC
 |[],_=>[]
 |[t],x=>[.v t x]
 |t::u::ts,x=>.v t x.1::Ty.cells (u::ts) x.2
theorem Ty.nf:∀(ts:List Ty) (x:Ty.DL ts),(Ty.cells ts x).map SC.er=(Ty.aA ts x).map .c
 |[],_=>rfl
 |[t],x=>rfl
 |t::u::ts,x=>by simp only[Ty.cells,Ty.aA,wt,Ty.nf (u::ts) x.2];rfl
def Sn (n k rs off:Nat) (t:Ty) (x:t.D):SC:=
 match t,x with
 |.list ts,xs=>.bz n k rs off ts.length (af (α:=Ty.DL ts) xs)
 |.int k',x=>.v (.int k') x
 |.bool,x=>.v .bool x
def Ty.live (n k rs:Nat):Nat->(ts:List Ty)->Ty.DL ts->List SC
 |_,[],_=>[]
 |off,[t],x=>[Sn n k rs off t x]
 |off,t::u::ts,x=>Sn n k rs off t x.1::Ty.live n k rs (off+1) (u::ts) x.2
theorem aas (n k a off:Nat) (t:Ty) (x:t.D) (l:List C):iV n k a off (t.er x::l)=(Sn n k a off t x).er::iV n k a (off+1) l:=by cases t with|int k'=>rfl|bool=>rfl|list ts=>exact congrArg (fun m=>ah.bz n k a off ts.length m::iV n k a (off+1) l) (AN (Ty.aA ts))
theorem Ty.aax (n k a:Nat):∀(off:Nat) (ts:List Ty) (x:Ty.DL ts),(Ty.live n k a off ts x).map SC.er=iV n k a off (Ty.aA ts x)
 |_,[],_=>rfl
 |off,[t],x=>(aas n k a off t x []).symm
 |off,t::u::ts,x=>by simp only[Ty.live,Ty.aA,aas,wt,Ty.aax n k a (off+1) (u::ts) x.2]
theorem aat (n k a:Nat):∀(j off:Nat) (l:List C),(iV n k a off l).drop j=iV n k a (off+j) (l.drop j)
 |0,off,l=>by simp
 |j+1,off,[]=>by simp[iV]
 |j+1,off,c::l=>by have b:=aat n k a j (off+1) l;rw[show off+1+j=off+(j+1) by omega] at b;cases c<;>simpa[iV] using b
theorem aaw (n k a:Nat):∀(j off:Nat) (l:List C),(iV n k a off l).take j=iV n k a off (l.take j)
 |0,off,l=>by simp[iV]
 |j+1,off,[]=>by simp[iV]
 |j+1,off,c::l=>by cases c<;>simp[iV,aaw n k a j (off+1) l]
theorem aau (n k a:Nat):∀(off:Nat) (l:List C),(iV n k a off l).length=l.length
 |off,[]=>rfl
 |off,c::l=>by cases c<;>simp[iV,aau n k a (off+1) l]
theorem asi (n k a off sz:Nat) (l:List C):sub (iV n k a 0 l) off sz=(sub l off sz).map (iV n k a off):=by unfold sub;rw[aau];split;simp[aat,aaw];rfl
theorem t6 {α β:Type} (f:α->β) (l:List α) (off sz:Nat):sub (l.map f) off sz=(sub l off sz).map (AT f):=by unfold sub;rw[AN];split;simp[zaN,zat];rfl
def vW (t:Ty):(ts:List Ty)->t.D->Ty.DL ts->Ty.DL (t::ts)
 |[],x,_=>x
 |_::_,x,y=>(x,y)
theorem JY (t:Ty) (ts:List Ty) (x:t.D) (y:Ty.DL ts):Ty.aA (t::ts) (vW t ts x y)=t.er x::Ty.aA ts y:=by cases ts<;>rfl
def nE:(ts:List Ty)->List ((t:Ty)×t.D)->Option (Ty.DL ts)
 |[],[]=>some ()
 |t::ts,c::cs=>match Ty.cast c.1 t c.2,nE ts cs with
  |some y,some z=>some (vW t ts y z)
  |_,_=>none
 |_,_=>none
def dz (l:List ((t:Ty)×t.D)):List C:=l.map fun x=>x.1.er x.2
theorem wV:∀{ts:List Ty} {cs:List ((t:Ty)×t.D)} {y:Ty.DL ts},nE ts cs=some y->Ty.aA ts y=dz cs
 |[],[],y,h=>rfl
 |t::ts,c::cs,y,h=>by simp only[nE] at h;split at h;rename_i y1 z b a;injection h with h;subst h;have:=wV a;simp only[dz] at this;simp only[JY,dz,wt,Ty.O1 b,this];cases h
 |[],_::_,y,h=>by simp[nE] at h
 |t::ts,[],y,h=>by simp[nE] at h
def Ty.fT:(ts:List Ty)->Ty.DL ts->List ((t:Ty)×t.D)
 |[],_=>[]
 |[t],x=>[⟨t,x⟩]
 |t::u::ts,x=>⟨t,x.1⟩::Ty.fT (u::ts) x.2
theorem Ty.pN:∀(ts:List Ty) (x:Ty.DL ts),dz (Ty.fT ts x)=Ty.aA ts x
 |[],_=>rfl
 |[t],x=>rfl
 |t::u::ts,x=>by have:=Ty.pN (u::ts) x.2;simp only[dz] at this;simp only[Ty.fT,Ty.aA,dz,wt,this]
def eM {ρ:Type} (b:Bool) (x:Option ρ):Option ρ:=match b with|true=>x|false=>none
def cE {ρ:Type} (a b:Nat) (x:Option ρ):Option ρ:=match zax a b with|true=>x|false=>none
theorem bT {ρ:Type} {b:Bool} {x:Option ρ} {r:ρ} (h:eM b x=some r):b=true/\x=some r:=by cases b with|true=>exact⟨rfl,h⟩|false=>cases h
theorem aS {ρ:Type} {a b:Nat} {x:Option ρ} {r:ρ} (h:cE a b x=some r):a=b/\x=some r:=by unfold cE at h;split at h;rename_i e;exact⟨IN e,h⟩;cases h
abbrev TD:=(t:Ty)×t.D
inductive cR where
 |t (n:Nat)
 |k (v:SV)
def cR.er:cR->MO
 |.t n=>.t n
 |.k v=>.k v.er
def ai.ev (σ:ai):cR->SV
 |.t n=>σ.env n
 |.k v=>v
theorem ai.eD (σ:ai) (x:cR):σ.er.ev x.er=(σ.ev x).er:=by cases x<;>rfl
def SV.cells?:SV->Option (Bool×List SC)
 |.one .bC=>none
 |.one c=>some (false,[c])
 |.agg cs=>some (true,cs)
 |.bH _=>none
 |.arr _ _=>none
 |.kZ _ _ _=>none
theorem SV.nf {v:SV} {b:Bool} {cs:List SC} (h:v.cells?=some (b,cs)):v.er.cells?=some (b,cs.map SC.er):=by cases v with|one c=>cases c<;>simp[SV.cells?] at h<;>(obtain⟨rfl,rfl⟩:=h;rfl)|agg cs'=>simp[SV.cells?] at h;obtain⟨rfl,rfl⟩:=h;rfl|bH xs=>simp[SV.cells?] at h|arr ts x=>simp[SV.cells?] at h|kZ ts x xs=>simp[SV.cells?] at h
def E5:Bool->List SC->SV
 |true,cs=>.agg cs
 |false,[c]=>.one c
 |false,_=>.one .bC
theorem I3 (b:Bool) (cs:List SC):(E5 b cs).er=rv b (cs.map SC.er):=by
 cases b with
 |true=>rfl
 |false=>match cs with
  |[]=>rfl
  |[c]=>rfl
  |_::_::_=>rfl
section
variable {ρ:Type}
def JD (op:BinOp) (k:IntKind) (a b:Int) (c:(t:Ty)->t.D->Option ρ):Option ρ:=
 match op with
 |.add=>c (.int k) (cH k a b)
 |.sub=>c (.int k) (t5 k a b)
 |.mul=>c (.int k) (mP k a b)
 |.quo=>(acN k a b).ae fun x=>c (.int k) x
 |.rem=>(w6 a b).ae fun x=>c (.int k) x
 |.and=>c (.int k) (agu k a b)
 |.or=>c (.int k) (yW k a b)
 |.xor=>c (.int k) (as6 k a b)
 |.eql=>c .bool (bR a b)
 |.neq=>c .bool (ff a b)
 |.lss=>c .bool (bF a b)
 |.leq=>c .bool (gO a b)
 |.gtr=>c .bool (bF b a)
 |.geq=>c .bool (gO b a)
 |_=>none
theorem agS {op:BinOp} {k:IntKind} {a b:Int} {c:(t:Ty)->t.D->Option ρ} {r:ρ} (h:JD op k a b c=some r):
    ∃(t:Ty) (x:t.D),CE op k a b=some (t.er x)/\c t x=some r:=by
  cases op<;>first
    |exact⟨.int k,_,rfl,h⟩
    |exact⟨.bool,_,rfl,h⟩
    |(simp only[JD,acN,w6,eC] at h
      obtain⟨x,d,f⟩:=h;split at d
      · cases d
      · rename_i e;injection d with d;subst d;exact⟨.int k,_,by simp[CE,e,Ty.er],f⟩)
    |(simp[JD] at h)
def MF (op:BinOp) (k:IntKind) (a b:Int) (c:(t:Ty)->t.D->Option ρ):Option ρ:=
 match op with
 |.shl=>(zl k a b).ae fun x=>c (.int k) x
 |.shr=>(aeI k a b).ae fun x=>c (.int k) x
 |_=>none
theorem arM {op:BinOp} {k:IntKind} {a b:Int} {c:(t:Ty)->t.D->Option ρ} {r:ρ} (h:MF op k a b c=some r):
    ∃(t:Ty) (x:t.D),ID op k a b=some (t.er x)/\c t x=some r:=by
  cases op<;>first
    |(simp only[MF,zl,aeI,eC] at h
      obtain⟨x,d,f⟩:=h;split at d
      · cases d
      · rename_i e;injection d with d;subst d;exact⟨.int k,_,by simp[ID,e,Ty.er],f⟩)
    |(simp[MF] at h)
def OR (op:BinOp) (x y:SV) (c:(t:Ty)->t.D->Option ρ):Option ρ:=
 match x,y with
 |.one (.v (.int k) a),.one (.v (.int k') b)=>match BinOp.AS op with
  |true=>MF op k a b c
  |false=>match decide (k=k') with
   |true=>JD op k a b c
   |false=>none
 |_,_=>none
theorem agT {op:BinOp} {x y:SV} {c:(t:Ty)->t.D->Option ρ} {r:ρ} (h:OR op x y c=some r): ∃(t:Ty) (z:t.D),xN op x.er y.er=some (t.er z)/\c t z=some r:=by unfold OR at h;split at h;rename_i k a k' b;split at h;rename_i e;obtain⟨t,z,g,f⟩:=arM h;exact⟨t,z,by simp[SV.er,SC.er,Ty.er,xN,e];exact g,f⟩;rename_i e;split at h;rename_i d;have d:=of_decide_eq_true d;obtain⟨t,z,g,f⟩:=agS h;exact⟨t,z,by simp[SV.er,SC.er,Ty.er,xN,e,d];subst d;exact g,f⟩;cases h;cases h
def OQ (op:BinOp) (x y:SV) (c:(t:Ty)->t.D->Option ρ):Option ρ:=
 match x,y with
 |.one (.v .bool a),.one (.v .bool b)=>match op with
  |.eql=>c .bool (eqB a b)
  |.neq=>c .bool (HY a b)
  |_=>none
 |_,_=>none
theorem agR {op:BinOp} {x y:SV} {c:(t:Ty)->t.D->Option ρ} {r:ρ} (h:OQ op x y c=some r): ∃(t:Ty) (z:t.D),CD op x.er y.er=some (t.er z)/\c t z=some r:=by unfold OQ at h;split at h;rename_i a b;split at h;exact⟨.bool,_,rfl,h⟩;exact⟨.bool,_,rfl,h⟩;cases h;cases h
def Ux (op:UnOp) (x:SV) (c:(t:Ty)->t.D->Option ρ):Option ρ:=
 match x with
 |.one (.v .bool a)=>match op with
  |.not=>c .bool (dh a)
  |_=>none
 |.one (.v (.int k) a)=>match op with
  |.neg=>c (.int k) (aoW k a)
  |_=>none
 |_=>none
theorem asF {op:UnOp} {x:SV} {c:(t:Ty)->t.D->Option ρ} {r:ρ} (h:Ux op x c=some r): ∃(t:Ty) (z:t.D),E7 op x.er=some (t.er z)/\c t z=some r:=by unfold Ux at h;split at h;rename_i a;split at h;exact⟨.bool,_,rfl,h⟩;cases h;rename_i k a;split at h;exact⟨.int k,_,rfl,h⟩;cases h;cases h
def SV.d6:SV->Option Int
 |.one (.v (.int k) n)=>some n
 |_=>none
theorem SV.AR {v:SV} {n:Int} (h:v.d6=some n):v.er.d6=some n:=by unfold SV.d6 at h;split at h;injection h with h;subst h;rfl;cases h
theorem Ty.Px:∀(ts:List Ty) (x:Ty.DL ts),(Ty.fT ts x).length=ts.length
 |[],_=>rfl
 |[t],_=>rfl
 |t::u::ts,x=>by simp only[Ty.fT,zbc,Ty.Px (u::ts) x.2]
def xu (n:Nat):Ty.DL (Pe n (.int .i64)):=match n with
 |0=>()
 |n+1=>vW (.int .i64) (Pe n (.int .i64)) (0:Int) (xu n)
def uN (ts:List Ty) (x:Ty.DL ts) (i:Nat):Option Int:=match(Ty.fT ts x)[i]? with
 |some ⟨.int .i64,v⟩=>some v
 |_=>none
def zd (ts:List Ty) (x:Ty.DL ts) (i:Nat) (v:Int):Option (Ty.DL ts):=match decide (i<ts.length) with
 |true=>nE ts ((Ty.fT ts x).set i ⟨.int .i64,v⟩)
 |false=>none
theorem af4:∀n,Ty.aA (Pe n (.int .i64)) (xu n)=Pe n (.int .i64 0)
 |0=>rfl
 |n+1=>(JY (.int .i64) (Pe n (.int .i64)) (0:Int) (xu n)).trans (congrArg (List.cons (C.int .i64 0)) (af4 n))
theorem ajS {ts:List Ty} {x:Ty.DL ts} {i:Nat} {v:Int} (h:uN ts x i=some v):(Ty.aA ts x)[i]? =some (.int .i64 v):=by unfold uN at h;split at h;rename_i w a;injection h with h;subst h;rw[<-Ty.pN,dz,By,a];rfl;cases h
theorem arE {ts:List Ty} {x y:Ty.DL ts} {i:Nat} {v:Int} (h:zd ts x i v=some y):i<ts.length/\Ty.aA ts y=(Ty.aA ts x).set i (.int .i64 v):=by unfold zd at h;split at h;rename_i a;refine⟨of_decide_eq_true a,?_⟩;have:=wV h;rw[this,dz,zaj,<-Ty.pN ts x];rfl;cases h
theorem sub_one {α:Type} {l:List α} {i:Nat} {c:α} (h:l[i]? =some c):sub l i 1=some [c]:=by obtain⟨a,b⟩:=If.1 h;unfold sub;rw[ak (show i+1<=l.length from a),List.drop_eq_getElem_cons a,b];rfl
def MK (h:Nat->Option SB) (p:SC) (sz:Nat) (c:List SC->Option ρ):Option ρ:=
 match p with
 |.ptr n k aD off=>match h n with
  |some (.box cs)=>cE k 0 (match sub cs off sz with|some l=>c l|none=>none)
  |some (.row _ m ts xs)=>cE aD ts.length ((cP xs k).ae fun e=>
   match sub (match m with|.live=>Ty.live n k ts.length 0 ts e|_=>Ty.cells ts e) off sz with
   |some l=>c l
   |none=>none)
  |some (.eP ts x)=>cE k 0 (cE sz 1 ((uN ts x off).ae fun v=>c [.v (.int .i64) v]))
  |none=>none
 |.di ts x off=>match sub (Ty.cells ts x) off sz with|some l=>c l|none=>none
 |.cO ts x off j n s len=>match zax off j&&zax sz 1 with
  |true=>c [.sl n s 0 len]
  |false=>eM (zaw (off+sz) j) (match sub (Ty.cells ts x) off sz with|some l=>c l|none=>none)
 |.cX n kk aD off s i=>match h n with
  |some (.row _ .live ts xs)=>cE ts.length aD ((cP xs kk).ae fun e=>match(Ty.fT ts e)[off]? with
   |some ⟨.list us,ys⟩=>cE us.length s (cE sz s (eM (Ty.e9 us) ((cP (α:=Ty.DL us) ys i).ae fun y=>c (Ty.cells us y))))
   |_=>none)
  |_=>none
 |_=>none
theorem ajU {ts:List Ty} {ys:List (Ty.DL ts)} {i:Nat} {y:Ty.DL ts} (h:cP ys i=some y):(AT (Ty.aA ts) ys)[i]? =some (Ty.aA ts y):=by have a:ys[i]? =some y:=h;rw[By,a];rfl
theorem ao8 {us:List Ty} {L:List (List C)} {i:Nat} {y:Ty.DL us} (h:L[i]? =some (Ty.aA us y)) (a:Ty.e9 us=true): (match L[i]? with|some e=>if Am.e9 e=true then some (e.map .c) else none|none=>none)=some ((Ty.cells us y).map SC.er):=by rw[h];simp only[Ty.Bo,a,if_true,Ty.nf]
theorem ahB:∀{ts:List Ty} {e:Ty.DL ts} {off:Nat} {x:TD},(Ty.fT ts e)[off]? =some x->(Ty.aA ts e)[off]? =some (x.1.er x.2):=by intro ts e off x h;rw[<-Ty.pN,dz,By,h];rfl
theorem aeQ {h:Nat->Option SB} {p:SC} {sz:Nat} {c:List SC->Option ρ} {r:ρ} (hx:MK h p sz c=some r): ∃l,loadAt (dO h) p.er sz=some (l.map SC.er)/\c l=some r:=by unfold MK at hx;split at hx;rename_i n k F off;split at hx;rename_i cs hn;have a:=(aS hx).1;replace hx:=(aS hx).2;subst a;split at hx;rename_i l e;refine⟨l,?_,hx⟩;simp[SC.er,loadAt,dO,hn,SB.er,t6,e];cases hx;rename_i A m ts xs hn;have a:=(aS hx).1;replace hx:=(aS hx).2;subst a;rw[eC] at hx;obtain⟨e,d,hx⟩:=hx;replace d:xs[k]? =some e:=d;split at hx;rename_i l hl;refine⟨l,?_,hx⟩;have t:(AT (Ty.aA ts) xs)[k]? =some (Ty.aA ts e):=(by rw[By,d];rfl);simp only[SC.er,loadAt,dO,hn,AI,SB.er,if_true,t];(cases m with|live=>simp only at hl;have:=congrArg (zaX (AT SC.er)) hl;rw[<-t6,Ty.aax,asi] at this;(cases b:sub (Ty.aA ts e) off sz with|none=>rw[b] at this;cases this|some o=>rw[b] at this;simpa using this)|aN=>simp only at hl;have:=congrArg (zaX (AT SC.er)) hl;rw[<-t6,Ty.nf,t6] at this;(cases b:sub (Ty.aA ts e) off sz with|none=>rw[b] at this;cases this|some o=>rw[b] at this;simpa using this)|aM=>simp only at hl;have:=congrArg (zaX (AT SC.er)) hl;rw[<-t6,Ty.nf,t6] at this;cases b:sub (Ty.aA ts e) off sz with|none=>rw[b] at this;cases this|some o=>rw[b] at this;simpa using this);cases hx;rename_i ts x hn;have a:=(aS hx).1;replace hx:=(aS hx).2;subst a;have a:=(aS hx).1;replace hx:=(aS hx).2;subst a;rw[eC] at hx;obtain⟨v,D,hx⟩:=hx;have B:=ajS D;refine⟨_,?_,hx⟩;have g:((Ty.aA ts x).map ah.c)[off]? =some (.c (.int .i64 v)):=(by rw[By,B];rfl);have u:=sub_one g;simp only[SC.er,loadAt,dO,hn,AI,SB.er,if_true];exact u;cases hx;rename_i ts x off;split at hx;rename_i l hl;refine⟨l,?_,hx⟩;have:=congrArg (zaX (AT SC.er)) hl;rw[<-t6,Ty.nf,t6] at this;simpa[SC.er,loadAt] using this;cases hx;rename_i ts x off j n s len;split at hx;rename_i f;simp only[co] at f;have g:=IN f.1;have u:=IN f.2;subst g u;exact⟨_,by simp[SC.er,loadAt],hx⟩;rename_i f;have z:¬(off=j/\sz=1):=(by rintro⟨rfl,rfl⟩;simp at f);have C:=(bT hx).1;replace hx:=(bT hx).2;have E:=zaz C;split at hx;rename_i l hl;refine⟨l,?_,hx⟩;have:=congrArg (zaX (AT SC.er)) hl;rw[<-t6,Ty.nf,t6] at this;simp only[SC.er,loadAt];rw[aq z,ak E];(cases b:sub (Ty.aA ts x) off sz with|none=>rw[b] at this;cases this|some o=>rw[b] at this;simpa using this);cases hx;rename_i n w F off s i;split at hx;rename_i A ts xs hn;have a:=(aS hx).1;replace hx:=(aS hx).2;subst a;rw[eC] at hx;obtain⟨e,d,hx⟩:=hx;replace d:xs[w]? =some e:=d;split at hx;rename_i us ys hd;have a:=(aS hx).1;replace hx:=(aS hx).2;subst a;have a:=(aS hx).1;replace hx:=(aS hx).2;subst a;have b:=(bT hx).1;replace hx:=(bT hx).2;rw[eC] at hx;obtain⟨y,hy,hx⟩:=hx;have q:(AT (Ty.aA us) ys)[i]? =some (Ty.aA us y):=ajU (ts:=us) (ys:=ys) hy;refine⟨Ty.cells us y,?_,hx⟩;have t:=ahB hd;simp only[SC.er,loadAt,dO,hn,AI,SB.er,if_true,By,d,zam,t,Ty.er,and_self];exact ao8 q b;cases hx;cases hx;cases hx
theorem J2:∀{ts:List Ty} {e:Ty.DL ts} {off:Nat} {x:TD},(Ty.fT ts e)[off]? =some x->(Ty.aA ts e)[off]? =some (x.1.er x.2):=by intro ts e off x h;rw[<-Ty.pN,dz,By,h];rfl
def xo (h:Nat->Option SB) (c:SC) (k:(t:Ty)->t.D->Option ρ):Option ρ:=
 match c with
 |.v t x=>k t x
 |.nil ts=>match ts with
  |[]=>none
  |t::us=>k (.list (t::us)) ([]:List (Ty.DL (t::us)))
 |.sl n sz lo len=>match h n with
  |some (.row _ _ ts xs)=>cE ts.length sz ((cM xs lo len).ae fun ys=>k (.list ts) ys)
  |_=>none
 |.bz n kk aD off sz len=>match h n with
  |some (.row _ .live ts xs)=>cE ts.length aD ((cP xs kk).ae fun e=>match(Ty.fT ts e)[off]? with
   |some ⟨t,x⟩=>k t x
   |none=>none)
  |_=>none
 |_=>none
theorem afY {ts:List Ty} {xs ys:List (Ty.DL ts)} {lo len:Nat} (h:cM xs lo len=some ys):lo+len<=xs.length/\((AT (Ty.aA ts) xs).drop lo).take len=AT (Ty.aA ts) ys:=by unfold cM at h;split at h;rename_i hl;injection h with h;subst h;exact⟨hl,by simp[zaN,zat]⟩;cases h
theorem BH {h:Nat->Option SB} {c:SC} {k:(t:Ty)->t.D->Option ρ} {r:ρ} (hx:xo h c k=some r): ∃(t:Ty) (x:t.D),cF (dO h) c.er=some (t.er x)/\k t x=some r:=by unfold xo at hx;split at hx;exact⟨_,_,rfl,hx⟩;split at hx;cases hx;rename_i t us;exact⟨.list (t::us),[],by simp[SC.er,cF,Ty.er],hx⟩;rename_i n sz lo len;split at hx;rename_i f m ts xs hn;have b:=(aS hx).1;replace hx:=(aS hx).2;subst b;rw[eC] at hx;obtain⟨ys,j,hx⟩:=hx;obtain⟨i,g⟩:=afY j;refine⟨.list ts,ys,?_,hx⟩;simp only[SC.er,cF,dO,hn,AI,SB.er,AN,Ty.er,g,i,and_self,if_true];cases hx;rename_i n d aD off sz len;split at hx;rename_i f ts xs hn;have b:=(aS hx).1;replace hx:=(aS hx).2;subst b;rw[eC] at hx;obtain⟨e,a,hx⟩:=hx;replace a:xs[d]? =some e:=a;split at hx;rename_i t x hd;refine⟨t,x,?_,hx⟩;have:=J2 hd;simp only[SC.er,cF,dO,hn,AI,SB.er,if_true,By,a,zam,this];cases hx;cases hx;cases hx
def EW (h:Nat->Option SB):List SC->(List TD->Option ρ)->Option ρ
 |[],k=>k []
 |c::cs,k=>xo h c fun t x=>EW h cs fun l=>k (⟨t,x⟩::l)
theorem Nb {h:Nat->Option SB}:∀{cs:List SC} {k:List TD->Option ρ} {r:ρ},EW h cs k=some r-> ∃l,jC (dO h) (cs.map SC.er)=some (dz l)/\k l=some r
 |[],k,r,hx=>⟨[],rfl,hx⟩
 |c::cs,k,r,hx=>by simp only[EW] at hx;obtain⟨t,x,e,b⟩:=BH hx;obtain⟨l,a,d⟩:=Nb b;exact⟨⟨t,x⟩::l,by simp[jC,e,a,dz],d⟩
abbrev cC:=K×List TD
def cC.er (d:cC):Dv:=(d.1,dz d.2)
def Uj (h:Nat->Option SB) (v:SV) (k:cC->Option ρ):Option ρ:=
 match v with
 |.one (.ptr n kk sz off)=>match h n with
  |some (.box cs)=>cE kk 0 (cE off 0 (EW h cs fun l=>k (.ptr,l)))
  |_=>none
 |.one (.di ts x off)=>cE off 0 (k (.ptr,Ty.fT ts x))
 |.one c=>xo h c fun t x=>k (.one,[⟨t,x⟩])
 |.agg cs=>EW h cs fun l=>k (.agg,l)
 |.bH _=>none
 |.arr _ _=>none
 |.kZ _ _ _=>none
theorem asm {h:Nat->Option SB} {v:SV} {k:cC->Option ρ} {r:ρ} (hx:Uj h v k=some r): ∃d:cC,iZ (dO h) v.er=some d.er/\k d=some r:=by unfold Uj at hx;split at hx;rename_i n m sz off;split at hx;rename_i cs hn;have i:=(aS hx).1;replace hx:=(aS hx).2;subst i;have i:=(aS hx).1;replace hx:=(aS hx).2;subst i;obtain⟨l,g,j⟩:=Nb hx;exact⟨(.ptr,l),by simp[SV.er,SC.er,iZ,dO,hn,SB.er];exact⟨_,g,rfl⟩,j⟩;cases hx;rename_i ts x off;have i:=(aS hx).1;replace hx:=(aS hx).2;subst i;exact⟨(.ptr,Ty.fT ts x),by simp[SV.er,SC.er,iZ,cC.er,Ty.pN],hx⟩;rename_i c p hd;obtain⟨t,x,g,j⟩:=BH hx;refine⟨(.one,[⟨t,x⟩]),?_,j⟩;(cases c with|ptr n m sz off=>exact absurd rfl (p n m sz off)|di ts x off=>exact absurd rfl (hd ts x off)|v t' x'=>simp only[SV.er,SC.er,iZ] at g⊢;rw[g];rfl|nil ts=>simp only[SV.er,SC.er,iZ] at g⊢;rw[g];rfl|sl n sz lo len=>simp only[SV.er,SC.er,iZ] at g⊢;rw[g];rfl|bz n a b o d e=>simp only[SV.er,SC.er,iZ] at g⊢;rw[g];rfl|cX n a b o d e=>simp only[SV.er,SC.er,iZ] at g⊢;rw[g];rfl|cO ts x a b n o d=>simp only[SV.er,SC.er,iZ] at g⊢;rw[g];rfl|fn f dR=>simp only[SV.er,SC.er,iZ] at g⊢;rw[g];rfl|bC=>simp only[SV.er,SC.er,iZ] at g⊢;rw[g];rfl);obtain⟨l,g,j⟩:=Nb hx;exact⟨(.agg,l),by simp[SV.er,iZ,g,cC.er],j⟩;cases hx;cases hx;cases hx
def BG (h:Nat->Option SB):List SV->(List cC->Option ρ)->Option ρ
 |[],k=>k []
 |v::vs,k=>Uj h v fun d=>BG h vs fun l=>k (d::l)
theorem IX {h:Nat->Option SB}:∀{vs:List SV} {k:List cC->Option ρ} {r:ρ},BG h vs k=some r-> ∃l,kf (dO h) (vs.map SV.er)=some (l.map cC.er)/\k l=some r
 |[],k,r,hx=>⟨[],rfl,hx⟩
 |v::vs,k,r,hx=>by simp only[BG] at hx;obtain⟨d,e,b⟩:=asm hx;obtain⟨l,a,c⟩:=IX b;exact⟨d::l,by simp[kf,e,a],c⟩
def Mode.own:Mode->Bool
 |.aM=>false
 |_=>true
theorem Mode.apn (m:Mode):decide (m≠ .aM)=m.own:=by cases m<;>rfl
def Ud (σ:ai) (c:SC) (k:(t:Ty)->t.D->Bool->ai->Option ρ):Option ρ:=
 match c with
 |.v t x=>k t x t.eX σ
 |.nil ts=>match ts with
  |[]=>none
  |t::us=>k (.list (t::us)) ([]:List (Ty.DL (t::us))) true σ
 |.sl n sz lo len=>match σ.h n with
  |some (.row _ m ts xs)=>cE ts.length sz (cE lo 0 ((d9 xs len).ae fun ys=>k (.list ts) ys m.own (σ.del n)))
  |_=>none
 |_=>none
theorem afr {ts:List Ty} {xs ys:List (Ty.DL ts)} {len:Nat} (h:d9 xs len=some ys):len<=xs.length/\(AT (Ty.aA ts) xs).take len=AT (Ty.aA ts) ys:=by unfold d9 at h;split at h;rename_i hl;injection h with h;subst h;exact⟨hl,by simp[zat]⟩;cases h
theorem asb {σ:ai} {c:SC} {k:(t:Ty)->t.D->Bool->ai->Option ρ} {r:ρ} (hx:Ud σ c k=some r): ∃(t:Ty) (x:t.D) (o:Bool) (σ1:ai),σ.er.f0 c.er=some (t.er x,o,σ1.er)/\k t x o σ1=some r:=by unfold Ud at hx;split at hx;rename_i t x;exact⟨_,_,_,_,by simp only[SC.er,St.f0,Ty.y8],hx⟩;split at hx;cases hx;rename_i t us;exact⟨.list (t::us),[],true,σ,by simp[SC.er,St.f0,Ty.er],hx⟩;rename_i n sz lo len;split at hx;rename_i b m ts xs hn;have a:=(aS hx).1;replace hx:=(aS hx).2;subst a;have a:=(aS hx).1;replace hx:=(aS hx).2;subst a;rw[eC] at hx;obtain⟨ys,f,hx⟩:=hx;obtain⟨e,d⟩:=afr f;refine⟨.list ts,ys,m.own,σ.del n,?_,hx⟩;have g:σ.er.h n=some (.row b m ts.length (AT (Ty.aA ts) xs)):=(by simp[ai.er,dO,hn,SB.er]);simp only[SC.er,St.f0,g,AN,e,d,and_self,if_true,Ty.er,ai.Kf,Mode.apn];cases hx;cases hx
def ES (σ:ai):List SC->(List TD->Bool->ai->Option ρ)->Option ρ
 |[],k=>k [] true σ
 |c::cs,k=>Ud σ c fun t x o σ1=>ES σ1 cs fun l o' σ2=>k (⟨t,x⟩::l) (o&&o') σ2
theorem M6:∀{cs:List SC} {σ:ai} {k:List TD->Bool->ai->Option ρ} {r:ρ},ES σ cs k=some r-> ∃(l:List TD) (o:Bool) (σ1:ai),σ.er.f6 (cs.map SC.er)=some (dz l,o,σ1.er)/\k l o σ1=some r
 |[],σ,k,r,hx=>⟨[],true,σ,rfl,hx⟩
 |c::cs,σ,k,r,hx=>by simp only[ES] at hx;obtain⟨t,x,o,σ1,f,b⟩:=asb hx;obtain⟨l,d,σ2,a,e⟩:=M6 b;exact⟨⟨t,x⟩::l,o&&d,σ2,by simp[St.f6,f,a,dz],e⟩
def M5 (ts:List Ty) (σ:ai):List SV->(List (Ty.DL ts)->Bool->ai->Option ρ)->Option ρ
 |[],k=>k [] true σ
 |v::vs,k=>match v.cells? with
  |some (_,cs)=>ES σ cs fun l o σ1=>match nE ts l with
   |some e=>M5 ts σ1 vs fun es o' σ2=>k (e::es) (o&&o') σ2
   |none=>none
  |none=>none
theorem afx:∀{cs:List ah} {σ σ1:St} {l:List C} {o:Bool},σ.f6 cs=some (l,o,σ1)->l.length=cs.length
 |[],σ,σ1,l,o,h=>by simp[St.f6] at h;rw[h.1];rfl
 |c::cs,σ,σ1,l,o,h=>by simp only[St.f6] at h;split at h;split at h;rename_i a;injection h with h;injection h with h h2;subst h;simp[afx a];cases h;cases h
theorem afe {ts:List Ty}:∀{vs:List SV} {σ:ai} {k:List (Ty.DL ts)->Bool->ai->Option ρ} {r:ρ},M5 ts σ vs k=some r-> ∃(es:List (Ty.DL ts)) (o:Bool) (σ1:ai),σ.er.kc ts.length (vs.map SV.er)=some (AT (Ty.aA ts) es,o,σ1.er)/\k es o σ1=some r
 |[],σ,k,r,hx=>⟨[],true,σ,rfl,hx⟩
 |v::vs,σ,k,r,hx=>by simp only[M5] at hx;split at hx;rename_i b cs h;obtain⟨l,o,σ1,f,c⟩:=M6 hx;split at c;rename_i e d;obtain⟨es,j,σ2,g,i⟩:=afe c;have hl:(cs.map SC.er).length=ts.length:=(by have a:=afx f;rw[<-wV d,Ty.pP] at a;exact a.symm);refine⟨e::es,o&&j,σ2,?_,i⟩;simp only[wt,St.kc,SV.nf h,hl,if_true,f,g,wV d];cases c;cases hx
end
section
def aZ:List (List Ty)->Type
 |[]=>Unit
 |ts::l=>match l with
  |[]=>Ty.DL ts
  |us::l'=>Ty.DL ts×aZ (us::l')
abbrev aH:=List (K×List Ty)
abbrev aH.aY (s:aH):List (List Ty):=s.map (·.2)
def dV:(as:aH)->aZ as.aY->List Dv
 |[],_=>[]
 |[a],x=>[(a.1,Ty.aA a.2 x)]
 |a::b::as,x=>(a.1,Ty.aA a.2 x.1)::dV (b::as) x.2
def jf:(as:aH)->aZ as.aY->List cC
 |[],_=>[]
 |[a],x=>[(a.1,Ty.fT a.2 x)]
 |a::b::as,x=>(a.1,Ty.fT a.2 x.1)::jf (b::as) x.2
theorem th:∀(as:aH) (x:aZ as.aY),(jf as x).map cC.er=dV as x
 |[],_=>rfl
 |[a],x=>congrArg (fun l=>[((a.1,l):Dv)]) (Ty.pN a.2 x)
 |a::b::as,x=>by have:=th (b::as) x.2;simp only[jf,dV,wt,cC.er,Ty.pN,this]
def K.beq:K->K->Bool
 |.one,.one=>true
 |.agg,.agg=>true
 |.ptr,.ptr=>true
 |_,_=>false
theorem K.beq_eq {a b:K} (h:K.beq a b=true):a=b:=by cases a<;>cases b<;>first|rfl|cases h
def FQ (ts:List Ty):(l:List (List Ty))->Ty.DL ts->aZ l->aZ (ts::l)
 |[],x,_=>x
 |_::_,x,y=>(x,y)
theorem PI (a:K×List Ty):∀(as:aH) (x:Ty.DL a.2) (y:aZ (aH.aY as)),dV (a::as) (FQ a.2 (aH.aY as) x y)=(a.1,Ty.aA a.2 x)::dV as y
 |[],_,_=>rfl
 |_::_,_,_=>rfl
def oF:(as:aH)->List cC->Option (aZ as.aY)
 |[],[]=>some ()
 |a::as,d::ds=>eM (K.beq a.1 d.1) (match nE a.2 d.2,oF as ds with
  |some x,some y=>some (FQ a.2 (aH.aY as) x y)
  |_,_=>none)
 |_,_=>none
theorem sA:∀{as:aH} {ds:List cC} {x:aZ as.aY},oF as ds=some x->ds.map cC.er=dV as x
 |[],[],x,h=>rfl
 |a::as,d::ds,x,h=>by simp only[oF] at h;have f:=(bT h).1;replace b:=(bT h).2;split at b;rename_i y z e c;injection b with b;subst b;rw[PI,wt,sA c,cC.er,<-K.beq_eq f,<-wV e];cases b
 |[],_::_,x,h=>by simp[oF] at h
 |a::as,[],x,h=>by simp[oF] at h
mutual
theorem Ty.WB:∀(t:Ty) (x y:t.D),t.er x=t.er y->x=y
 |.int k,x,y,h=>by simp only[Ty.er] at h;injection h
 |.bool,x,y,h=>by simp only[Ty.er] at h;injection h
 |.list ts,x,y,h=>by simp only[Ty.er] at h;injection h with _ h;exact Ty.WA ts x y h
theorem Ty.WA:∀(ts:List Ty) (xs ys:List (Ty.DL ts)),AT (Ty.aA ts) xs=AT (Ty.aA ts) ys->xs=ys
 |ts,[],[],h=>rfl
 |ts,x::xs,y::ys,h=>by simp only[wt,zaD] at h;rw[Ty.Ke ts x y h.1,Ty.WA ts xs ys h.2]
 |ts,[],_::_,h=>by simp at h
 |ts,_::_,[],h=>by simp at h
theorem Ty.Ke:∀(ts:List Ty) (x y:Ty.DL ts),Ty.aA ts x=Ty.aA ts y->x=y
 |[],x,y,h=>rfl
 |[t],x,y,h=>by simp only[Ty.aA,zaD,and_true] at h;exact Ty.WB t x y h
 |t::u::ts,x,y,h=>by simp only[Ty.aA,zaD] at h;exact zbd (Ty.WB t x.1 y.1 h.1) (Ty.Ke (u::ts) x.2 y.2 h.2)
end
theorem Wy:∀(as:aH) (x y:aZ as.aY),dV as x=dV as y->x=y
 |[],x,y,h=>rfl
 |[a],x,y,h=>by simp[dV] at h;exact Ty.Ke a.2 x y h
 |a::b::as,x,y,h=>by simp only[dV,zaD,Prod.mk.injEq,true_and] at h;exact zbd (Ty.Ke a.2 x.1 y.1 h.1) (Wy (b::as) x.2 y.2 h.2)
structure aw where
 id:FuncId
 args:aH
 mu:bP
 aC:aH
 F:aZ args.aY->Option (aZ aC.aY)
open Classical in
noncomputable def aw.M (fn:aw) (ds:List Dv):Option (List Dv):=
 if h:∃x,dV fn.args x=ds then(fn.F h.choose).map (dV fn.aC) else none
theorem aw.ul (fn:aw) (x:aZ fn.args.aY):fn.M (dV fn.args x)=(fn.F x).map (dV fn.aC):=by have h:∃y,dV fn.args y=dV fn.args x:=⟨x,rfl⟩;unfold aw.M;rw[dif_pos h,Wy _ _ _ h.choose_spec]
theorem aw.Jr {fn:aw} {ds a:List Dv} (h:fn.M ds=some a):∃x y,ds=dV fn.args x/\fn.F x=some y/\a=dV fn.aC y:=by unfold aw.M at h;split at h;rename_i e;rw[zaS] at h;obtain⟨y,c,b⟩:=h;exact⟨_,y,e.choose_spec.symm,c,b.symm⟩;cases h
def bP.cD:bP->Nat
 |[]=>0
 |s::l=>(s.filter Option.isSome).length+bP.cD l
def zp (k:Nat) (rs:List Dv):List Dv×List C:=(rs.take k,(rs.drop k).flatMap (·.2))
noncomputable def aw.MM (fn:aw) (ds:List Dv):Option (List Dv×List C):=(fn.M ds).map (zp (fn.aC.length - fn.mu.cD))
def bP.fu:bP->Nat
 |[]=>0
 |[[some .aM]]=>2
 |[some .aM,some .aM]::_=>3
 |[some .aM,some .aM,some .aM]::_=>4
 |[some .aM,some .aM,some .aM,some .aM]::_=>5
 |_=>1
def YC:aH->Bool
 |[]=>false
 |(.ptr,_)::_=>true
 |_::as=>YC as
def yS (as:aH):Nat:=match YC as with
 |true=>1
 |false=>0
noncomputable def aw.MV (fn:aw) (ds:List Dv):Option (List Dv×List C):=(fn.M ds).map (zp (fn.aC.length - yS fn.args))
def UG:List Dv->Option (Nat×Nat)
 |[(.one,[.int _ a]),(.one,[.int _ b])]=>some (a.toNat,(b - a).toNat)
 |_=>none
noncomputable def aw.MW (fn:aw) (ds:List Dv):Option (Nat×Nat):=(fn.M ds).bind UG
def bP.kH (s:bP):Nat:=s.length - 2
noncomputable def aw.MX (fn:aw) (ds:List Dv):Option (List Dv×List C):=(fn.M ds).map (zp (fn.aC.length - 1))
noncomputable def cV (T:List aw):aQ:=
 ⟨T.filterMap fun fn=>match fn.mu.fu with|0=>some (fn.id,fn.M)|_=>none,T.filterMap fun fn=>match fn.mu.fu with|1=>some (fn.id,fn.mu,fn.MM)|_=>none,
  T.filterMap fun fn=>match fn.mu.fu with|2=>some (fn.id,fn.MV)|_=>none,T.filterMap fun fn=>match fn.mu.fu with|3=>some (fn.id,fn.mu.tl,fn.MW)|_=>none,
  T.filterMap fun fn=>match fn.mu.fu with|4=>some (fn.id,fn.mu.kH,fn.MX)|_=>none,T.filterMap fun fn=>match fn.mu.fu with|5=>some (fn.id,fn.M)|_=>none⟩
def aw.find:List aw->FuncId->Option aw
 |[],_=>none
 |fn::l,f=>match zax f fn.id with
  |true=>some fn
  |false=>aw.find l f
theorem aw.F9:∀{T:List aw} {f:FuncId} {fn:aw},aw.find T f=some fn->fn.mu.fu=0->aQ.find (cV T).pure f=some fn.M
 |[],f,fn,h,_=>by simp[aw.find] at h
 |g::l,f,fn,h,hm=>by simp only[aw.find] at h;split at h;rename_i e;injection h with h;subst h;simp only[cV,IS,hm,aQ.find];rw[ak (IN e)];rename_i e;have a:aQ.find (cV l).pure f=some fn.M:=aw.F9 h hm;simp only[cV,IS] at a⊢;by_cases b:g.mu.fu=0;simp only[b,aQ.find];rw[aq (fun i=>by rw[i,zan] at e;cases e)];exact a;split;exact a;rename_i z c;split at c;rename_i d;exact absurd d b;cases c
theorem aw.W7:∀{T:List aw} {f:FuncId} {fn:aw},aw.find T f=some fn->fn.mu.fu=1->aQ.pQ (cV T).yP f=some (fn.mu,fn.MM)
 |[],f,fn,h,_=>by simp[aw.find] at h
 |g::l,f,fn,h,hm=>by simp only[aw.find] at h;split at h;rename_i e;injection h with h;subst h;simp only[cV,IS,hm,aQ.pQ];rw[ak (IN e)];rename_i e;have a:aQ.pQ (cV l).yP f=some (fn.mu,fn.MM):=aw.W7 h hm;simp only[cV,IS] at a⊢;by_cases b:g.mu.fu=1;simp only[b,aQ.pQ];rw[aq (fun i=>by rw[i,zan] at e;cases e)];exact a;split;exact a;rename_i z c;split at c;rename_i d;exact absurd d b;cases c
theorem aw.W8:∀{T:List aw} {f:FuncId} {fn:aw},aw.find T f=some fn->fn.mu.fu=2->aQ.lY (cV T).vs f=some fn.MV
 |[],f,fn,h,_=>by simp[aw.find] at h
 |g::l,f,fn,h,hm=>by simp only[aw.find] at h;split at h;rename_i e;injection h with h;subst h;simp only[cV,IS,hm,aQ.lY];rw[ak (IN e)];rename_i e;have a:aQ.lY (cV l).vs f=some fn.MV:=aw.W8 h hm;simp only[cV,IS] at a⊢;by_cases b:g.mu.fu=2;simp only[b,aQ.lY];rw[aq (fun i=>by rw[i,zan] at e;cases e)];exact a;split;exact a;rename_i z c;split at c;rename_i d;exact absurd d b;cases c
def xj (m:Mode) (σ:ai):Nat->List TD->Option (List SC×Nat×ai)
 |nm,[]=>some ([],nm,σ)
 |nm,⟨t,x⟩::cs=>match t,x with
  |.list ts,xs=>match σ.ins nm (.row m.tR m ts xs) with
   |some σ1=>match xj m σ1 (nm+1) cs with
    |some (l,gv,σ2)=>some (.sl nm ts.length 0 (af (α:=Ty.DL ts) xs)::l,gv,σ2)
    |none=>none
   |none=>none
  |.int k,x=>match xj m σ nm cs with
   |some (l,gv,σ2)=>some (.v (.int k) x::l,gv,σ2)
   |none=>none
  |.bool,x=>match xj m σ nm cs with
   |some (l,gv,σ2)=>some (.v .bool x::l,gv,σ2)
   |none=>none
theorem MI (m:Mode):∀{cs:List TD} {σ σ1:ai} {nm d:Nat} {l:List SC},xj m σ nm cs=some (l,d,σ1)-> σ.er.imp m nm (dz cs)=some (l.map SC.er,d,σ1.er)
 |[],σ,σ1,nm,d,l,h=>by simp only[xj] at h;injection h with h;injection h with c a;injection a with a h3;subst c a h3;rfl
 |⟨.list ts,xs⟩::cs,σ,σ2,nm,d,l,h=>by simp only[xj] at h;split at h;rename_i σ1 j;split at h;rename_i i g f e;injection h with h;injection h with c a;injection a with a h3;subst c a h3;have n:σ.er.ins nm (.row m.tR m ts.length (AT (Ty.aA ts) xs))=some σ1.er:=ai.tp j;have b:=MI m e;simp only[dz] at b;simp only[dz,wt,Ty.er,St.imp,n,b,SC.er];exact congrArg (fun q=>some (ah.sl nm ts.length 0 q::AT SC.er i,g,f.er)) (AN (Ty.aA ts));cases h;cases h
 |⟨.int k,x⟩::cs,σ,σ2,nm,d,l,h=>by simp only[xj] at h;split at h;rename_i i g f e;injection h with h;injection h with c a;injection a with a h3;subst c a h3;have b:=MI m e;simp only[dz] at b;simp only[dz,wt,Ty.er,St.imp,b,SC.er];cases h
 |⟨.bool,x⟩::cs,σ,σ2,nm,d,l,h=>by simp only[xj] at h;split at h;rename_i i g f e;injection h with h;injection h with c a;injection a with a h3;subst c a h3;have b:=MI m e;simp only[dz] at b;simp only[dz,wt,Ty.er,St.imp,b,SC.er];cases h
def K.isAgg:K->Bool
 |.agg=>true
 |_=>false
def K.ZS:K->Bool
 |.ptr=>true
 |_=>false
def xk (m:Mode) (σ:ai):Nat->List cC->Option (List (Bool×List SC)×ai)
 |_,[]=>some ([],σ)
 |nm,(k,cs)::ds=>match k.ZS with
  |true=>none
  |false=>match xj m σ nm cs with
   |some (l,gv,σ1)=>match xk m σ1 gv ds with
    |some (ls,σ2)=>some ((k.isAgg,l)::ls,σ2)
    |none=>none
   |none=>none
theorem EG (m:Mode):∀{ds:List cC} {σ σ1:ai} {nm:Nat} {a:List (Bool×List SC)},xk m σ nm ds=some (a,σ1)-> σ.er.jQ m nm (ds.map cC.er)=some (a.map (fun x=>(x.1,x.2.map SC.er)),σ1.er)
 |[],σ,σ1,nm,a,h=>by simp only[xk] at h;injection h with h;injection h with b h2;subst b h2;rfl
 |(k,cs)::ds,σ,σ2,nm,a,h=>by simp only[xk] at h;split at h;cases h;rename_i i;split at h;rename_i l f σ1 g;split at h;rename_i j e n;injection h with h;injection h with b h2;subst b h2;have c:=MI m g;have o:=EG m n;have d:σ1.er.jQ m f (AT cC.er ds)=some (j.map (fun x=>(x.1,x.2.map SC.er)),e.er):=o;(cases k with|ptr=>cases i|one=>simp only[wt,cC.er,St.jQ,c,d];rfl|agg=>simp only[wt,cC.er,St.jQ,c,d];rfl);cases h;cases h
def zq:List (Bool×List SC)->SV
 |[(ag,cs)]=>E5 ag cs
 |l=>.bH l
theorem BC (l:List (Bool×List SC)):(zq l).er=lO (l.map fun x=>(x.1,x.2.map SC.er)):=by
 match l with
 |[]=>rfl
 |[(ag,cs)]=>exact I3 ag cs
 |_::_::_=>rfl
section
variable {ρ:Type}
def Tx (T:List aw) (m:Mode) (d:Option Nat) (f:FuncId) (as:List SV) (σ:ai) (k:ai->Option ρ):Option ρ:=
 match aw.find T f with
 |some fn=>match fn.mu.fu with
  |0=>BG σ.h as fun ds=>match oF fn.args ds with
   |some x=>(fn.F x).ae fun rs=>match xk m σ (qc d) (jf fn.aC rs) with
    |some (ls,σ1)=>k (σ1.put d (zq ls))
    |none=>none
   |none=>none
  |_=>none
 |none=>none
theorem arC {T:List aw} {m:Mode} {d:Option Nat} {f:FuncId} {as:List SV} {σ:ai} {k:ai->Option ρ} {r:ρ} (h:Tx T m d f as σ k=some r): ∃σ1:ai,rL (cV T) m d f (as.map SV.er) σ.er=some σ1.er/\k σ1=some r:=by unfold Tx at h;split at h;rename_i fn j;split at h;rename_i c;obtain⟨ds,g,a⟩:=IX h;split at a;rename_i x hx;rw[eC] at a;obtain⟨rs,l,a⟩:=a;split at a;rename_i ls σ1 i;refine⟨_,?_,a⟩;have e:=EG m i;rw[th] at e;have b:kf σ.er.h (as.map SV.er)=some (ds.map cC.er):=g;simp only[rL,b,aw.F9 j c,sA hx,aw.ul,l,AI,e,ai.ew,BC];cases a;cases a;cases h;cases h
structure U7 where
 ts:List Ty
 x:Ty.DL ts
 as:aH
 y:aZ as.aY
def ae2:(as:aH)->aZ as.aY->Option U7
 |[(.agg,ts)],x=>some ⟨ts,x,[],()⟩
 |(.agg,ts)::b::as,x=>some ⟨ts,x.1,b::as,x.2⟩
 |_,_=>none
theorem ar3:∀{as:aH} {x:aZ as.aY} {q:U7},ae2 as x=some q->dV as x=(.agg,Ty.aA q.ts q.x)::dV q.as q.y
 |[(.agg,ts)],x,q,h=>by injection h with h;subst h;rfl
 |(.agg,ts)::b::as,x,q,h=>by injection h with h;subst h;rfl
 |[],x,q,h=>by cases h
 |[(.one,ts)],x,q,h=>by cases h
 |[(.ptr,ts)],x,q,h=>by cases h
 |(.one,ts)::b::as,x,q,h=>by cases h
 |(.ptr,ts)::b::as,x,q,h=>by cases h
theorem ZD (m:Mode) (σ:St) (nm:Nat):∀{l:List C},Am.e9 l=true->σ.imp m nm l=some (l.map .c,nm,σ)
 |[],_=>rfl
 |c::l,h=>by simp only[Am.e9,zao,co] at h;have a:=ZD m σ nm (l:=l) h.2;cases c with|list sz xs=>cases h.1|int k n=>simp only[St.imp,a,wt]|bool b=>simp only[St.imp,a,wt]
def Vr (ts:List Ty) (x:Ty.DL ts):List (Bool×List SC)->SV
 |[]=>.arr ts x
 |l=>.kZ ts x l
theorem agE (ts:List Ty) (x:Ty.DL ts) (l:List (Bool×List SC)):(Vr ts x l).er=lO ((true,(Ty.aA ts x).map .c)::l.map fun x=>(x.1,x.2.map SC.er)):=by cases l<;>rfl
def TF (T:List aw) (m:Mode) (d:Option Nat) (f:FuncId) (as:List SV) (σ:ai) (k:ai->Option ρ):Option ρ:=
 match aw.find T f with
 |some fn=>match fn.mu.fu with
  |0=>BG σ.h as fun ds=>match oF fn.args ds with
   |some x=>(fn.F x).ae fun rs=>match ae2 fn.aC rs with
    |some q=>eM (Ty.e9 q.ts) (match xk m σ (qc d) (jf q.as q.y) with
     |some (ls,σ1)=>k (σ1.put d (Vr q.ts q.x ls))
     |none=>none)
    |none=>none
   |none=>none
  |_=>none
 |none=>none
theorem arz {T:List aw} {m:Mode} {d:Option Nat} {f:FuncId} {as:List SV} {σ:ai} {k:ai->Option ρ} {r:ρ} (h:TF T m d f as σ k=some r): ∃σ1:ai,rL (cV T) m d f (as.map SV.er) σ.er=some σ1.er/\k σ1=some r:=by unfold TF at h;split at h;rename_i fn o;split at h;rename_i j;obtain⟨ds,l,a⟩:=IX h;split at a;rename_i x hx;rw[eC] at a;obtain⟨u,v,a⟩:=a;split at a;rename_i q s;have b:=(bT a).1;replace a:=(bT a).2;split at a;rename_i t σ1 n;refine⟨_,?_,a⟩;have e:=EG m n;rw[th] at e;have i:kf σ.er.h (as.map SV.er)=some (ds.map cC.er):=l;have g:St.imp m σ.er (qc d) (Ty.aA q.ts q.x)=some ((Ty.aA q.ts q.x).map .c,qc d,σ.er):=ZD m _ _ (by rw[Ty.Bo];exact b);have p:σ.er.jQ m (qc d) (dV fn.aC u)=some ((true,(Ty.aA q.ts q.x).map .c)::t.map (fun x=>(x.1,x.2.map SC.er)),σ1.er):=(by rw[ar3 s];simp only[St.jQ,g,e];rfl);simp only[rL,i,aw.F9 o j,sA hx,aw.ul,v,AI,p,ai.ew,agE];cases a;cases a;cases a;cases h;cases h
def LA:(as:aH)->(ts:List Ty)->Ty.DL ts->List cC->Option (aZ as.aY)
 |[],_,_,_=>none
 |(kk,us)::as,ts,y,ds=>eM (K.beq kk .agg) (match Ty.rI ts us y,oF as ds with
  |some x,some z=>some (FQ us (aH.aY as) x z)
  |_,_=>none)
theorem aaN:∀{as:aH} {ts:List Ty} {y:Ty.DL ts} {ds:List cC} {x:aZ as.aY},LA as ts y ds=some x->(K.agg,Ty.aA ts y)::ds.map cC.er=dV as x
 |[],ts,y,ds,x,h=>by cases h
 |(kk,us)::as,ts,y,ds,x,h=>by simp only[LA] at h;have e:=K.beq_eq (bT h).1;replace h:=(bT h).2;subst e;split at h;rename_i a b d c;injection h with h;subst h;have:=PI (.agg,us) as a b;rw[this,(Ty.ag5 d).1,sA c];cases h
theorem afV (h:Nat->Option ar):∀(l:List C),jC h (l.map .c)=some l
 |[]=>rfl
 |c::l=>by simp only[wt,jC,cF,afV h l]
def Tz (T:List aw) (m:Mode) (d:Option Nat) (f:FuncId) (ts:List Ty) (y:Ty.DL ts) (as:List SV) (σ:ai) (k:ai->Option ρ):Option ρ:=
 match aw.find T f with
 |some fn=>match fn.mu.fu with
  |0=>BG σ.h as fun ds=>match LA fn.args ts y ds with
   |some x=>(fn.F x).ae fun rs=>match xk m σ (qc d) (jf fn.aC rs) with
    |some (ls,σ1)=>k (σ1.put d (zq ls))
    |none=>none
   |none=>none
  |_=>none
 |none=>none
theorem aru {T:List aw} {m:Mode} {d:Option Nat} {f:FuncId} {ts:List Ty} {y:Ty.DL ts} {as:List SV} {σ:ai} {k:ai->Option ρ} {r:ρ} (h:Tz T m d f ts y as σ k=some r): ∃σ1:ai,rL (cV T) m d f ((SV.arr ts y).er::as.map SV.er) σ.er=some σ1.er/\k σ1=some r:=by unfold Tz at h;split at h;rename_i fn j;split at h;rename_i c;obtain⟨ds,g,a⟩:=IX h;split at a;rename_i x hx;rw[eC] at a;obtain⟨rs,n,a⟩:=a;split at a;rename_i ls σ1 i;refine⟨_,?_,a⟩;have e:=EG m i;rw[th] at e;have b:kf σ.er.h ((SV.arr ts y).er::as.map SV.er)=some ((K.agg,Ty.aA ts y)::ds.map cC.er):=(by have l:kf σ.er.h (as.map SV.er)=some (ds.map cC.er):=g;simp only[kf,SV.er,iZ,afV,AI,l]);simp only[rL,b,aw.F9 j c,aaN hx,aw.ul,n,AI,e,ai.ew,BC];cases a;cases a;cases h;cases h
def Br:List cC->Option (List (Bool×List SC))
 |[]=>some []
 |(k,cs)::ds=>match k.ZS with
  |true=>none
  |false=>match Br ds with
   |some ls=>some ((k.isAgg,cs.map fun x=>SC.v x.1 x.2)::ls)
   |none=>none
theorem Mi:∀{ds:List cC} {a:List (Bool×List SC)},Br ds=some a->iP (ds.map cC.er)=some (a.map fun x=>(x.1,x.2.map SC.er))
 |[],a,h=>by simp only[Br] at h;injection h with h;subst h;rfl
 |(k,cs)::ds,a,h=>by simp only[Br] at h;split at h;cases h;rename_i f;split at h;rename_i Bb e;injection h with h;subst h;have b:=Mi e;have d:(dz cs).map ah.c=(cs.map fun x=>SC.v x.1 x.2).map SC.er:=(by simp[dz,SC.er]);(cases k with|ptr=>cases f|one=>simp only[wt,cC.er,iP];rw[show iP (AT cC.er ds)=_ from b];simp only;rw[d];rfl|agg=>simp only[wt,cC.er,iP];rw[show iP (AT cC.er ds)=_ from b];simp only;rw[d];rfl);cases h
def TB (T:List aw) (d:Option Nat) (f:FuncId) (as:List SV) (σ:ai) (k:ai->Option ρ):Option ρ:=
 match aw.find T f with
 |some fn=>match fn.mu.fu with
  |0=>BG σ.h as fun ds=>match oF fn.args ds with
   |some x=>(fn.F x).ae fun rs=>match Br (jf fn.aC rs) with
    |some ls=>k (σ.put d (zq ls))
    |none=>none
   |none=>none
  |_=>none
 |none=>none
theorem arw {T:List aw} {d:Option Nat} {f:FuncId} {as:List SV} {σ:ai} {k:ai->Option ρ} {r:ρ} (h:TB T d f as σ k=some r): ∃v:SV,vR (cV T) f (as.map SV.er) σ.er.h=some v.er/\k (σ.put d v)=some r:=by unfold TB at h;split at h;rename_i fn j;split at h;rename_i c;obtain⟨ds,g,a⟩:=IX h;split at a;rename_i x hx;rw[eC] at a;obtain⟨rs,l,a⟩:=a;split at a;rename_i ls i;refine⟨_,?_,a⟩;have e:=Mi i;rw[th] at e;have b:kf σ.er.h (as.map SV.er)=some (ds.map cC.er):=g;simp only[vR,b,aw.F9 j c,sA hx,aw.ul,l,AI,e,BC];cases a;cases a;cases h;cases h
def Ty.uF:Ty->Bool
 |.list ts=>Ty.e9 ts
 |_=>true
def Uv:Mode->List Ty->Bool
 |.aN,ts=>Ty.e9 ts
 |.live,ts=>ts.all Ty.uF
 |.aM,_=>false
theorem xg (ts:List Ty) (xs:List (Ty.DL ts)) (h:Ty.e9 ts=true):fh (AT (Ty.aA ts) xs)=true:=by simp only[fh,IT,zad];rintro e ⟨x,_,rfl⟩;rw[Ty.Bo];exact h
theorem Wj (t:Ty) (x:t.D) (h:Ty.uF t=true):C.uF (t.er x)=true:=by cases t with|int k=>rfl|bool=>rfl|list ts=>exact xg ts x h
theorem Wi:∀(ts:List Ty) (x:Ty.DL ts),ts.all Ty.uF=true->(Ty.aA ts x).all C.uF=true
 |[],_,_=>rfl
 |[t],x,h=>by simp only[zao,zbb,zaO] at h;simp only[Ty.aA,zao,zbb,zaO];exact Wj t x h
 |t::u::ts,x,h=>by simp only[zao (a:=t),co] at h;simp only[Ty.aA,zao (a:=Ty.er t x.1),co];exact⟨Wj t x.1 h.1,Wi (u::ts) x.2 h.2⟩
theorem Xc (m:Mode) (ts:List Ty) (xs:List (Ty.DL ts)) (h:Uv m ts=true):uH m (AT (Ty.aA ts) xs)=true:=by cases m with|aM=>cases h|aN=>exact xg ts xs h|live=>simp only[uH,IT,zad];rintro e ⟨x,_,rfl⟩;have:=Wi ts x h;simpa[IT] using this
def Mode.Hs:Mode->Bool
 |.live=>true
 |_=>false
def Mode.ZN:Mode->Bool
 |.aN=>true
 |_=>false
def TV (h:Nat->Option SB) (md:Mode) (c:SC) (k:dG->(t:Ty)->t.D->Option ρ):Option ρ:=
 match c with
 |.nil ts=>match ts with
  |[]=>none
  |t::us=>eM md.own (k (.nil (us.length+1)) (.list (t::us)) ([]:List (Ty.DL (t::us))))
 |.sl n sz lo len=>match h n with
  |some (.row gr m ts xs)=>eM (m.own&&((!md.Hs||m.Hs)&&(Uv md ts&&(!m.Hs|| !gr)))) (cE ts.length sz ((bj lo len (af xs)).ae fun _=>k (.row n) (.list ts) xs))
  |_=>none
 |.bz n kk aD off sz len=>match h n with
  |some (.row false .live ts xs)=>eM md.ZN (cE ts.length aD ((cP xs kk).ae fun e=>match(Ty.fT ts e)[off]? with
   |some ⟨.list us,ys⟩=>eM (Ty.e9 us) (k (.nest n kk off) (.list us) ys)
   |_=>none))
  |_=>none
 |_=>none
theorem arT {h:Nat->Option SB} {a:Mode} {c:SC} {k:dG->(t:Ty)->t.D->Option ρ} {r:ρ} (hx:TV h a c k=some r): ∃(it:dG) (t:Ty) (x:t.D),tP (dO h) a c.er=some (it,t.er x)/\k it t x=some r:=by unfold TV at hx;split at hx;split at hx;cases hx;rename_i t us;have hm:=(bT hx).1;replace hx:=(bT hx).2;refine⟨_,.list (t::us),[],?_,hx⟩;have f:a≠ .aM:=(by rintro rfl;cases hm);simp[SC.er,tP,Ty.er,f];rename_i n sz lo len;split at hx;rename_i gr m ts xs hn;have hm:=(bT hx).1;replace hx:=(bT hx).2;have d:=(aS hx).1;replace hx:=(aS hx).2;subst d;rw[eC] at hx;obtain⟨_,g,hx⟩:=hx;have p:lo=0/\len=af xs:=(by unfold bj at g;split at g;assumption;cases g);obtain⟨rfl,rfl⟩:=p;simp only[co] at hm;have f:m≠ .aM:=(by rintro rfl;cases hm.1);have j:a=.live->m=.live:=(by rintro rfl;have:=hm.2.1;cases m<;>first|rfl|(simp[Mode.Hs] at this));refine⟨_,.list ts,xs,?_,hx⟩;simp only[SC.er,tP,dO,hn,AI,SB.er,Ty.er];rw[ak ⟨f,j,trivial,trivial,(AN (Ty.aA ts)).symm,Xc a ts xs hm.2.2.1,fun hl=>by have:=hm.2.2.2;subst hl;simpa[Mode.Hs] using this⟩];cases hx;rename_i n i aD off sz len;split at hx;rename_i ts xs hn;have hm:=(bT hx).1;replace hx:=(bT hx).2;have d:=(aS hx).1;replace hx:=(aS hx).2;subst d;rw[eC] at hx;obtain⟨e,b,hx⟩:=hx;replace b:xs[i]? =some e:=b;split at hx;rename_i us ys hd;have o:=(bT hx).1;replace hx:=(bT hx).2;refine⟨_,.list us,ys,?_,hx⟩;have l:a=.aN:=(by cases a<;>first|rfl|(simp[Mode.ZN] at hm));have q:=J2 hd;simp only[SC.er,tP,dO,hn,AI,SB.er,By,b,zam,q,Ty.er,l,and_self,if_true];rw[ak (xg us ys o)];cases hx;cases hx;cases hx
def SC.nm:SC->List Nat
 |.sl n _ _ _=>[n]
 |.bz n _ _ _ _ _=>[n]
 |_=>[]
theorem SC.ao2 (c:SC):c.er.eS.toList=c.nm:=by cases c<;>rfl
def EH:List (Option Mode)->List SC->List Nat
 |some _::fs,c::cs=>c.nm++EH fs cs
 |none::fs,_::cs=>EH fs cs
 |_,_=>[]
theorem TW:∀(a:List (Option Mode)) (cs:List SC),oG a (cs.map SC.er)=EH a cs
 |some m::a,c::cs=>by simp only[wt,oG,EH,SC.ao2,TW a cs]
 |none::a,c::cs=>by simp only[wt,oG,EH,TW a cs]
 |[],cs=>by cases cs<;>rfl
 |some m::a,[]=>rfl
 |none::a,[]=>rfl
def zm:bP->List (Bool×List SC)->List Nat
 |s::sig,a::as=>EH s a.2++zm sig as
 |_,_=>[]
theorem MP:∀(sig:bP) (as:List (Bool×List SC)),o9 sig (as.map fun x=>(x.1,x.2.map SC.er))=zm sig as
 |s::sig,a::as=>by simp only[wt,o9,zm,TW,MP sig as]
 |[],as=>by cases as<;>rfl
 |s::sig,[]=>rfl
def IE (h:Nat->Option SB) (ns:List Nat):Nat->Option SB:=fun n=>match ns.contains n with|true=>none|false=>h n
theorem TO (h:Nat->Option SB) (ns:List Nat):dO (IE h ns)=dL (dO h) ns:=by funext n;simp only[dO,IE,dL];cases hc:ns.contains n<;>simp[hc]
def xl (h h0:Nat->Option SB):List (Option Mode)->List SC->(List TD->List (dG×Mode)->Option ρ)->Option ρ
 |[],cs,k=>EW h0 cs fun l=>k l []
 |none::fs,c::cs,k=>xo h0 c fun t x=>xl h h0 fs cs fun l its=>k (⟨t,x⟩::l) its
 |some md::fs,c::cs,k=>TV h md c fun it t x=>xl h h0 fs cs fun l its=>k (⟨t,x⟩::l) ((it,md)::its)
 |_::_,[],_=>none
theorem TU {h i:Nat->Option SB}:∀{b:List (Option Mode)} {cs:List SC} {k:List TD->List (dG×Mode)->Option ρ} {r:ρ},xl h i b cs k=some r-> ∃l a,kT (dO h) (dO i) b (cs.map SC.er)=some (dz l,a)/\k l a=some r
 |[],cs,k,r,hx=>by simp only[xl] at hx;obtain⟨l,e,d⟩:=Nb hx;exact⟨l,[],by simp only[kT,e],d⟩
 |none::b,c::cs,k,r,hx=>by simp only[xl] at hx;obtain⟨t,x,e,d⟩:=BH hx;obtain⟨l,a,f,g⟩:=TU d;exact⟨⟨t,x⟩::l,a,by simp only[wt,kT,e,f,dz],g⟩
 |some md::b,c::cs,k,r,hx=>by simp only[xl] at hx;obtain⟨it,t,x,e,d⟩:=arT hx;obtain⟨l,a,f,g⟩:=TU d;exact⟨⟨t,x⟩::l,(it,md)::a,by simp only[wt,kT,e,f,dz],g⟩
 |none::b,[],k,r,hx=>by simp[xl] at hx
 |some md::b,[],k,r,hx=>by simp[xl] at hx
def R9:Bool->K
 |true=>.agg
 |false=>.one
def EI (h h0:Nat->Option SB):bP->List (Bool×List SC)->(List cC->List (dG×Mode)->Option ρ)->Option ρ
 |_,[],k=>k [] []
 |sig,(ag,cs)::as,k=>xl h h0 sig.hd cs fun l its=>EI h h0 sig.tl as fun ds wM=>k ((R9 ag,l)::ds) (its++wM)
theorem MQ {h b:Nat->Option SB}:∀{as:List (Bool×List SC)} {sig:bP} {k:List cC->List (dG×Mode)->Option ρ} {r:ρ},EI h b sig as k=some r-> ∃ds a,mQ (dO h) (dO b) sig (as.map fun x=>(x.1,x.2.map SC.er))=some (ds.map cC.er,a)/\k ds a=some r
 |[],sig,k,r,hx=>⟨[],[],by simp only[zbl,mQ],hx⟩
 |(ag,cs)::as,sig,k,r,hx=>by simp only[EI] at hx;obtain⟨l,a,f,d⟩:=TU hx;obtain⟨ds,wM,c,e⟩:=MQ d;refine⟨_,_,?_,e⟩;simp only[wt,mQ,f,c,cC.er];cases ag<;>rfl
def Bz:List SV->Option (List (Bool×List SC))
 |[]=>some []
 |v::vs=>match v.cells?,Bz vs with
  |some x,some xs=>some (x::xs)
  |_,_=>none
theorem ML:∀{as:List SV} {a:List (Bool×List SC)},Bz as=some a->q9 (as.map SV.er)=some (a.map fun x=>(x.1,x.2.map SC.er))
 |[],a,h=>by simp only[Bz] at h;injection h with h;subst h;rfl
 |v::vs,a,h=>by simp only[Bz] at h;split at h;rename_i x xs d c;injection h with h;subst h;obtain⟨b,cs⟩:=x;simp only[wt,q9,SV.nf d,ML c];cases h
def IC (ts:List Ty) (e:Ty.DL ts) (off:Nat) (x:TD):Option (Ty.DL ts):=nE ts ((Ty.fT ts e).set off x)
theorem TI {ts:List Ty} {e a:Ty.DL ts} {off:Nat} {x:TD} (h:IC ts e off x=some a):Ty.aA ts a=(Ty.aA ts e).set off (x.1.er x.2):=by have:=wV h;rw[this,dz,zaj,<-Ty.pN ts e];rfl
def T1 (σ:ai) (it:dG) (x:TD) (k:ai->Option ρ):Option ρ:=
 match it with
 |.nil _=>k σ
 |.row n=>match x with
  |⟨.list ts,xs⟩=>match σ.h n with
   |some (.row gr m us _)=>cE us.length ts.length (k (σ.ef n (.row gr m ts xs)))
   |_=>none
  |_=>none
 |.nest n kk off=>match σ.h n with
  |some (.row gr m us xs)=>(cP xs kk).ae fun e=>match IC us e off x with
   |some e'=>k (σ.ef n (.row gr m us (bh xs kk e')))
   |none=>none
  |_=>none
theorem ar5 {σ:ai} {it:dG} {x:TD} {k:ai->Option ρ} {r:ρ} (hx:T1 σ it x k=some r):∃σ1,σ.er.pj it (x.1.er x.2)=some σ1.er/\k σ1=some r:=by unfold T1 at hx;split at hx;exact⟨σ,rfl,hx⟩;rename_i n;split at hx;rename_i ts xs;split at hx;rename_i a m us ys hn;have f:=(aS hx).1;replace hx:=(aS hx).2;refine⟨_,?_,hx⟩;have c:σ.er.h n=some (.row a m us.length (AT (Ty.aA us) ys)):=(by simp[ai.er,dO,hn,SB.er]);simp only[St.pj,Ty.er,c,f,if_true,ai.oQ,SB.er];cases hx;cases hx;rename_i n d off;split at hx;rename_i a m us xs hn;rw[eC] at hx;obtain⟨e,b,hx⟩:=hx;replace b:xs[d]? =some e:=b;split at hx;rename_i e' g;refine⟨_,?_,hx⟩;have c:σ.er.h n=some (.row a m us.length (AT (Ty.aA us) xs)):=(by simp[ai.er,dO,hn,SB.er]);simp only[St.pj,c,By,b,AI,ai.oQ,SB.er,bh,zaj,TI g];cases hx;cases hx
def BB (σ:ai):List (dG×Mode)->List TD->(ai->Option ρ)->Option ρ
 |[],[],k=>k σ
 |it::its,x::xs,k=>T1 σ it.1 x fun σ1=>BB σ1 its xs k
 |_,_,_=>none
theorem T2:∀{a:List (dG×Mode)} {xs:List TD} {σ:ai} {k:ai->Option ρ} {r:ρ},BB σ a xs k=some r->∃σ1,σ.er.qf a (dz xs)=some σ1.er/\k σ1=some r
 |[],[],σ,k,r,hx=>⟨σ,rfl,hx⟩
 |it::a,x::xs,σ,k,r,hx=>by simp only[BB] at hx;obtain⟨σ1,e,c⟩:=ar5 hx;obtain⟨σ2,b,d⟩:=T2 c;refine⟨σ2,?_,d⟩;simp only[dz] at b;simp only[dz,wt,St.qf,e,b]
 |[],_::_,σ,k,r,hx=>by simp[BB] at hx
 |_::_,[],σ,k,r,hx=>by simp[BB] at hx
def H8:List Nat->Bool
 |[]=>true
 |n::l=> !(l.contains n)&&H8 l
theorem SM:∀{l:List Nat},H8 l=true->l.Nodup
 |[],_=>List.nodup_nil
 |n::l,h=>by simp only[H8,co,zav] at h;rw[List.nodup_cons];refine⟨fun hm=>?_,SM h.2⟩;have:l.contains n=true:=(by simpa using hm);rw[this] at h;cases h.1
def TC (T:List aw) (m:Mode) (d:Option Nat) (f:FuncId) (as:List SV) (σ:ai) (k:ai->Option ρ):Option ρ:=
 match aw.find T f with
 |some fn=>match fn.mu.fu with
  |1=>match Bz as with
   |some eI=>eM (H8 (zm fn.mu eI)) (EI σ.h (IE σ.h (zm fn.mu eI)) fn.mu eI fun ds its=>match oF fn.args ds with
    |some x=>(fn.F x).ae fun y=>BB σ its (((jf fn.aC y).drop (fn.aC.length - fn.mu.cD)).flatMap (·.2)) fun σ1=>match xk m σ1 (qc d) ((jf fn.aC y).take (fn.aC.length - fn.mu.cD)) with
     |some (ls,σ2)=>k (σ2.put d (zq ls))
     |none=>none
    |none=>none)
   |none=>none
  |_=>none
 |none=>none
theorem IP (k:Nat) (l:List cC):zp k (l.map cC.er)=((l.take k).map cC.er,dz ((l.drop k).flatMap (·.2))):=by simp only[zp,<-zat,<-zaN];congr 1;induction l.drop k with|nil=>rfl|cons d l a=>simp only[wt,List.flatMap_cons,a,dz,zbf,cC.er]
theorem arx {T:List aw} {m:Mode} {d:Option Nat} {f:FuncId} {as:List SV} {σ:ai} {k:ai->Option ρ} {r:ρ} (h:TC T m d f as σ k=some r): ∃σ1:ai,rN (cV T) m d f (as.map SV.er) σ.er=some σ1.er/\k σ1=some r:=by unfold TC at h;split at h;rename_i fn o;split at h;rename_i l;split at h;rename_i eI i;have j:=SM (bT h).1;replace h:=(bT h).2;obtain⟨ds,its,c,a⟩:=MQ h;split at a;rename_i x hx;rw[eC] at a;obtain⟨y,s,a⟩:=a;obtain⟨σ1,g,b⟩:=T2 a;split at b;rename_i ls σ2 n;refine⟨_,?_,b⟩;have e:=EG m n;have p:fn.MM (dV fn.args x)=some (((jf fn.aC y).take (fn.aC.length - fn.mu.cD)).map cC.er,dz (((jf fn.aC y).drop (fn.aC.length - fn.mu.cD)).flatMap (·.2))):=(by unfold aw.MM;rw[aw.ul,s];simp only[AI];rw[<-th,IP]);have q:σ.er.h=dO σ.h:=rfl;rw[TO] at c;simp only[rN,aw.W7 o l,ML i,MP,ak j,q,c,sA hx,p,g,e,ai.ew,BC];cases b;cases a;cases h;cases h;cases h
def Bw:List SC->Option (List TD)
 |[]=>some []
 |.v t x::cs=>match Bw cs with
  |some l=>some (⟨t,x⟩::l)
  |none=>none
 |.nil (t::us)::cs=>match Bw cs with
  |some l=>some (⟨.list (t::us),([]:List (Ty.DL (t::us)))⟩::l)
  |none=>none
 |_::_=>none
theorem MH:∀{cs:List SC} {l:List TD},Bw cs=some l->nA (cs.map SC.er)=some (dz l)
 |[],l,h=>by simp only[Bw] at h;injection h with h;subst h;rfl
 |c::cs,l,h=>by unfold Bw at h;split at h;rename_i e;cases e;rename_i t x cs' e;injection e with a e2;subst a e2;split at h;rename_i b e;injection h with h;subst h;simp only[wt,nA,SC.er,pY,MH e,dz];cases h;rename_i t us cs' e;injection e with a e2;subst a e2;split at h;rename_i b e;injection h with h;subst h;simp[nA,SC.er,pY,MH e,dz,Ty.er];cases h;cases h
def Tv (h:Nat->Option SB) (n kk off:Nat):Option (List TD):=
 match kk,off with
 |0,0=>match h n with
  |some (.box cs)=>Bw cs
  |_=>none
 |_,_=>none
theorem aro {h:Nat->Option SB} {n a sz off:Nat} {l:List TD} (e:Tv h n a off=some l):nN (dO h) (SV.er (.one (.ptr n a sz off)))=some (n,dz l):=by unfold Tv at e;split at e;split at e;rename_i cs hn;simp[SV.er,SC.er,nN,dO,hn,SB.er,MH e];cases e;cases e
def SV.rf:SV->Option (Nat×Nat×Nat)
 |.one (.ptr n kk _ off)=>some (n,kk,off)
 |_=>none
theorem aqr {v:SV} (h:v.rf=none) (a:Nat->Option ar):nN a v.er=none:=by cases v with|one c=>(cases c<;>first|rfl|(simp[SV.rf] at h))|agg cs=>rfl|bH xs=>rfl|arr ts x=>rfl|kZ ts x xs=>rfl
theorem aqs {v:SV} {n a off:Nat} (h:v.rf=some (n,a,off)):∃sz,v=.one (.ptr n a sz off):=by cases v with|one c=>cases c<;>simp[SV.rf] at h;obtain⟨rfl,rfl,rfl⟩:=h;exact⟨_,rfl⟩|agg cs=>simp[SV.rf] at h|bH xs=>simp[SV.rf] at h|arr ts x=>simp[SV.rf] at h|kZ ts x xs=>simp[SV.rf] at h
def IB (σ:ai):List SV->(List cC->List Nat->ai->Option ρ)->Option ρ
 |[],k=>k [] [] σ
 |v::vs,k=>match v.rf with
  |some (n,kk,off)=>match Tv σ.h n kk off with
   |some l=>IB σ vs fun ds ns σ1=>k ((.ptr,l)::ds) (n::ns) σ1
   |none=>none
  |none=>match v.cells? with
   |some (ag,cs)=>ES σ cs fun l _ σ1=>IB σ1 vs fun ds ns σ2=>k ((R9 ag,l)::ds) ns σ2
   |none=>none
theorem Tu:∀{vs:List SV} {σ:ai} {k:List cC->List Nat->ai->Option ρ} {r:ρ},IB σ vs k=some r-> ∃ds ns σ1,σ.er.jc (vs.map SV.er)=some (ds.map cC.er,ns,σ1.er)/\k ds ns σ1=some r
 |[],σ,k,r,h=>⟨[],[],σ,rfl,h⟩
 |v::vs,σ,k,r,h=>by simp only[IB] at h;split at h;rename_i n kk off a;obtain⟨sz,rfl⟩:=aqs a;split at h;rename_i l hl;obtain⟨ds,ns,σ1,b,c⟩:=Tu h;refine⟨_,_,σ1,?_,c⟩;have:=aro (sz:=sz) hl;have g:σ.er.h=dO σ.h:=rfl;simp only[wt,St.jc,g,this,b,cC.er];cases h;rename_i a;split at h;rename_i ag cs e;obtain⟨l,o,σ1,b,c⟩:=M6 h;obtain⟨ds,ns,σ2,d,f⟩:=Tu c;refine⟨_,_,σ2,?_,f⟩;simp only[wt,St.jc,aqr a,SV.nf e,b,d,cC.er];cases ag<;>rfl;cases h
def T0 (σ:ai) (ns:List Nat) (out:List TD) (k:ai->Option ρ):Option ρ:=
 match ns,out with
 |[],[]=>k σ
 |[n],out=>match σ.h n with
  |some (.box cs)=>cE cs.length out.length (k (σ.ef n (.box (out.map fun x=>.v x.1 x.2))))
  |_=>none
 |_,_=>none
theorem afR (out:List TD):(out.map fun x=>SC.v x.1 x.2).map SC.er=(dz out).map .c:=by simp[dz,SC.er]
theorem ar4 {σ:ai} {ns:List Nat} {out:List TD} {k:ai->Option ρ} {r:ρ} (h:T0 σ ns out k=some r):∃σ1,σ.er.sD ns (dz out)=some σ1.er/\k σ1=some r:=by unfold T0 at h;split at h;exact⟨σ,rfl,h⟩;rename_i n;split at h;rename_i cs hn;have a:=(aS h).1;replace h:=(aS h).2;refine⟨_,?_,h⟩;have b:σ.er.h n=some (.box (cs.map SC.er)):=(by simp[ai.er,dO,hn,SB.er]);simp only[St.sD,b,AN];rw[ak (by rw[a,dz,AN]),ai.oQ,SB.er,afR];cases h;cases h
def cC.rf:List cC->Option (List TD)
 |[(.ptr,cs)]=>some cs
 |_=>none
theorem arD {a:List cC} {cs:List TD} (h:cC.rf a=some cs):a=[(.ptr,cs)]:=by unfold cC.rf at h;split at h;injection h with h;rw[h];cases h
def Tw (σ:ai) (d:Option Nat) (rs:List cC) (k:ai->Option ρ):Option ρ:=
 match cC.rf rs with
 |some cs=>match d with
  |some q=>match σ.ins q (.box (cs.map fun x=>.v x.1 x.2)) with
   |some σ1=>k (σ1.put d (.one (.ptr q 0 0 0)))
   |none=>none
  |none=>none
 |none=>match Br rs with
  |some ls=>k (σ.put d (zq ls))
  |none=>none
theorem arp {σ:ai} {d:Option Nat} {a:List cC} {k:ai->Option ρ} {r:ρ} (h:Tw σ d a k=some r):∃σ1,rH σ.er d (a.map cC.er)=some σ1.er/\k σ1=some r:=by
 unfold Tw at h;split at h
 ·rename_i cs g;have:=arD g;subst this;split at h
  ·rename_i q;split at h
   ·rename_i σ1 c;refine⟨_,?_,h⟩;have e:=ai.tp c;rw[SB.er,afR] at e;simp only[wt,zbl,cC.er,rH,e,ai.ew];rfl
   ·cases h
  ·cases h
 ·split at h
  ·rename_i b i;refine⟨_,?_,h⟩;have e:=Mi i;have f:rH σ.er d (a.map cC.er)=match iP (a.map cC.er) with
     |some b=>some (σ.er.put d (lO b))
     |none=>none:=by
    unfold rH;split
    ·rename_i cs j;rw[j] at e;simp[iP] at e
    ·rfl
   rw[f,e,ai.ew,BC]
  ·cases h
def TA (T:List aw) (d:Option Nat) (f:FuncId) (as:List SV) (σ:ai) (k:ai->Option ρ):Option ρ:=
 match aw.find T f with
 |some fn=>match fn.mu.fu with
  |2=>IB σ as fun ds ns σ1=>match oF fn.args ds with
   |some x=>(fn.F x).ae fun y=>T0 σ1 ns (((jf fn.aC y).drop (fn.aC.length - yS fn.args)).flatMap (·.2)) fun σ2=>Tw σ2 d ((jf fn.aC y).take (fn.aC.length - yS fn.args)) k
   |none=>none
  |_=>none
 |none=>none
theorem arv {T:List aw} {d:Option Nat} {f:FuncId} {as:List SV} {σ:ai} {k:ai->Option ρ} {r:ρ} (h:TA T d f as σ k=some r): ∃σ1:ai,rM (cV T) d f (as.map SV.er) σ.er=some σ1.er/\k σ1=some r:=by unfold TA at h;split at h;rename_i fn l;split at h;rename_i g;obtain⟨ds,ns,σ1,j,a⟩:=Tu h;split at a;rename_i x hx;rw[eC] at a;obtain⟨y,o,a⟩:=a;obtain⟨σ2,e,i⟩:=ar4 a;obtain⟨c,b,n⟩:=arp i;refine⟨c,?_,n⟩;have m:fn.MV (dV fn.args x)=some (((jf fn.aC y).take (fn.aC.length - yS fn.args)).map cC.er,dz (((jf fn.aC y).drop (fn.aC.length - yS fn.args)).flatMap (·.2))):=(by unfold aw.MV;rw[aw.ul,o];simp only[AI];rw[<-th,IP]);simp only[rM,j,aw.W8 l g,sA hx,m,e,b];cases a;cases h;cases h
def aw.qI (k:Nat):List aw->FuncId->Option aw
 |[],_=>none
 |fn::l,f=>match zax f fn.id&&zax fn.mu.fu k with
  |true=>some fn
  |false=>aw.qI k l f
theorem aw.W4:∀{T:List aw} {f:FuncId} {fn:aw},aw.qI 2 T f=some fn->aQ.lY (cV T).vs f=some fn.MV
 |[],f,fn,h=>by simp[aw.qI] at h
 |g::l,f,fn,h=>by simp only[aw.qI] at h;split at h;rename_i e;injection h with h;subst h;rw[co] at e;have hm:=IN e.2;simp only[cV,IS,hm,aQ.lY];rw[ak (IN e.1)];rename_i e;have b:aQ.lY (cV l).vs f=some fn.MV:=aw.W4 h;simp only[cV,IS] at b⊢;by_cases a:g.mu.fu=2;simp only[a,aQ.lY];rw[aq (fun i=>by rw[i,a,zan] at e;cases e)];exact b;split;exact b;rename_i z c;split at c;rename_i d;exact absurd d a;cases c
theorem aw.W5:∀{T:List aw} {f:FuncId} {fn:aw},aw.qI 3 T f=some fn->aQ.tr (cV T).ws f=some (fn.mu.tl,fn.MW)
 |[],f,fn,h=>by simp[aw.qI] at h
 |g::l,f,fn,h=>by simp only[aw.qI] at h;split at h;rename_i e;injection h with h;subst h;rw[co] at e;have hm:=IN e.2;simp only[cV,IS,hm,aQ.tr];rw[ak (IN e.1)];rename_i e;have b:aQ.tr (cV l).ws f=some (fn.mu.tl,fn.MW):=aw.W5 h;simp only[cV,IS] at b⊢;by_cases a:g.mu.fu=3;simp only[a,aQ.tr];rw[aq (fun i=>by rw[i,a,zan] at e;cases e)];exact b;split;exact b;rename_i z c;split at c;rename_i d;exact absurd d a;cases c
theorem aw.W6:∀{T:List aw} {f:FuncId} {fn:aw},aw.qI 4 T f=some fn->aQ.tt (cV T).xs f=some (fn.mu.kH,fn.MX)
 |[],f,fn,h=>by simp[aw.qI] at h
 |g::l,f,fn,h=>by simp only[aw.qI] at h;split at h;rename_i e;injection h with h;subst h;rw[co] at e;have hm:=IN e.2;simp only[cV,IS,hm,aQ.tt];rw[ak (IN e.1)];rename_i e;have b:aQ.tt (cV l).xs f=some (fn.mu.kH,fn.MX):=aw.W6 h;simp only[cV,IS] at b⊢;by_cases a:g.mu.fu=4;simp only[a,aQ.tt];rw[aq (fun i=>by rw[i,a,zan] at e;cases e)];exact b;split;exact b;rename_i z c;split at c;rename_i d;exact absurd d a;cases c
def Uk (T:List cC) (i:Nat):Bool:=match T[i]? with
 |some (.one,[⟨.list [.int .i64],_⟩])=>true
 |_=>false
theorem asn {ds:List cC} {i:Nat} (h:Uk ds i=true):∃ys,(ds.map cC.er)[i]? =some (.one,[.list 1 ys]):=by unfold Uk at h;split at h;rename_i x e;exact⟨_,by rw[By,e];rfl⟩;cases h
def sdI (a:Int):cC:=(.one,[⟨.int .i64,a⟩])
def TH (T:List aw) (m:Mode) (d:Option Nat) (f:FuncId) (as:List SV) (σ:ai) (k:ai->Option ρ):Option ρ:=
 match aw.qI 4 T f with
 |some fn=>match as[fn.mu.kH]? with
  |some (.one (.sl n s lo len))=>match σ.h n with
   |some (.row _ _ ts xs)=>cE s 1 (cE ts.length 1 ((cP xs lo).ae fun _=>(cM xs lo len).ae fun _=>match Bz (as.set fn.mu.kH (.one (.sl n 1 0 (af xs)))) with
    |some eI=>eM (H8 (zm (ld fn.mu.kH) eI)) (EI σ.h (IE σ.h (zm (ld fn.mu.kH) eI)) (ld fn.mu.kH) eI fun ds its=>eM (Uk ds fn.mu.kH) (match oF fn.args (sdI (aU lo)::sdI (aU (aE lo len))::ds) with
     |some x=>(fn.F x).ae fun y=>BB σ its (((jf fn.aC y).drop (fn.aC.length - 1)).flatMap (·.2)) fun σ1=>match xk m σ1 (qc d) ((jf fn.aC y).take (fn.aC.length - 1)) with
      |some (ls,σ2)=>k (σ2.put d (zq ls))
      |none=>none
     |none=>none))
    |none=>none))
   |_=>none
  |_=>none
 |none=>none
theorem arB {T:List aw} {m:Mode} {d:Option Nat} {f:FuncId} {as:List SV} {σ:ai} {k:ai->Option ρ} {r:ρ} (h:TH T m d f as σ k=some r): ∃σ1:ai,v5 (cV T) m d f (as.map SV.er) σ.er=some σ1.er/\k σ1=some r:=by unfold TH at h;split at h;rename_i fn E;split at h;rename_i n s lo len I;split at h;rename_i p G ts xs v;have o:=(aS h).1;replace h:=(aS h).2;have b:=(aS h).1;replace h:=(aS h).2;rw[eC] at h;obtain⟨L,t,h⟩:=h;rw[eC] at h;obtain⟨wl,i,h⟩:=h;subst o;have A:lo<xs.length:=(If.1 (show xs[lo]? =some L from t)).1;have K:lo+len<=xs.length:=(by unfold cM at i;split at i;rename_i c;exact c;cases i);split at h;rename_i eI c;have B:=SM (bT h).1;replace h:=(bT h).2;obtain⟨ds,its,l,a⟩:=MQ h;have C:=asn (bT a).1;replace a:=(bT a).2;obtain⟨ys,H⟩:=C;split at a;rename_i x hx;rw[eC] at a;obtain⟨y,N,a⟩:=a;obtain⟨σ1,q,g⟩:=T2 a;split at g;rename_i ls σ2 D;refine⟨_,?_,g⟩;have e:=EG m D;have F:fn.MX (dV fn.args x)=some (((jf fn.aC y).take (fn.aC.length - 1)).map cC.er,dz (((jf fn.aC y).drop (fn.aC.length - 1)).flatMap (·.2))):=(by unfold aw.MX;rw[aw.ul,N];simp only[AI];rw[<-th,IP]);have J:σ.er.h=dO σ.h:=rfl;have O:σ.er.h n=some (.row p G ts.length (AT (Ty.aA ts) xs)):=(by simp[ai.er,dO,v,SB.er]);have w:dI lo::dI (lo+len)::ds.map cC.er=dV fn.args x:=sA hx;have M:xM fn.mu.kH lo (lo+len) fn.MX (ds.map cC.er)=some (((jf fn.aC y).take (fn.aC.length - 1)).map cC.er,dz (((jf fn.aC y).drop (fn.aC.length - 1)).flatMap (·.2))):=(by unfold xM;rw[H];simp only;rw[w,F]);have j:Fc σ.er.h (.one (.sl n 1 lo len))=some (n,lo,len,xs.length):=(by unfold Fc;simp only[O];rw[ak ⟨trivial,b,by rw[AN];exact A,by rw[AN];exact K⟩,AN]);have z:(as.map SV.er)[fn.mu.kH]? =some (.one (.sl n 1 lo len)):=(by rw[By,I];rfl);have u:(as.map SV.er).set fn.mu.kH (.one (.sl n 1 0 xs.length))=(as.set fn.mu.kH (.one (.sl n 1 0 (af xs)))).map SV.er:=(by rw[zaj];rfl);rw[TO] at l;unfold v5;rw[aw.W6 E];simp only[z,j,u];unfold rN;simp only[aQ.pQ,if_true,ML c,MP,ak B,J,l,M,q,e,ai.ew,BC];cases g;cases a;cases h;cases h;cases h;cases h
def IQ:List SV->Option (List cC)
 |[]=>some []
 |v::vs=>match v.cells? with
  |some (ag,cs)=>match Bw cs with
   |some l=>match IQ vs with
    |some ds=>some ((R9 ag,l)::ds)
    |none=>none
   |none=>none
  |none=>none
theorem ae5:∀{vs:List SV} {ds:List cC},IQ vs=some ds->Bl (vs.map SV.er)=some (ds.map cC.er)
 |[],ds,h=>by simp only[IQ] at h;injection h with h;subst h;rfl
 |v::vs,ds,h=>by simp only[IQ] at h;split at h;rename_i ag cs a;split at h;rename_i l hl;split at h;rename_i xS hd;injection h with h;subst h;simp only[wt,Bl,SV.nf a,MH hl,ae5 hd,cC.er];cases ag<;>rfl;cases h;cases h;cases h
def TE (T:List aw) (d:Option Nat) (f:FuncId) (as:List SV) (σ:ai) (k:ai->Option ρ):Option ρ:=
 match aw.qI 2 T f with
 |some fn=>match IQ as with
  |some ds=>match oF fn.args ds with
   |some x=>(fn.F x).ae fun y=>match((jf fn.aC y).drop (fn.aC.length - yS fn.args)).flatMap (·.2) with
    |[]=>match Br ((jf fn.aC y).take (fn.aC.length - yS fn.args)) with
     |some ls=>k (σ.put d (zq ls))
     |none=>none
    |_=>none
   |none=>none
  |none=>none
 |none=>none
theorem ary {T:List aw} {d:Option Nat} {f:FuncId} {as:List SV} {σ:ai} {k:ai->Option ρ} {r:ρ} (h:TE T d f as σ k=some r): ∃v:SV,Aj (cV T) f (as.map SV.er)=some v.er/\k (σ.put d v)=some r:=by unfold TE at h;split at h;rename_i fn b;split at h;rename_i ds hd;split at h;rename_i x hx;rw[eC] at h;obtain⟨y,e,h⟩:=h;split at h;rename_i g;split at h;rename_i ls a;refine⟨_,?_,h⟩;have c:fn.MV (dV fn.args x)=some (((jf fn.aC y).take (fn.aC.length - yS fn.args)).map cC.er,[]):=(by unfold aw.MV;rw[aw.ul,e];simp only[AI];rw[<-th,IP,g];rfl);simp only[Aj,ae5 hd,aw.W4 b,sA hx,c,Mi a,BC];cases h;cases h;cases h;cases h;cases h
def TG (T:List aw) (d:Option Nat) (f:FuncId) (as:List SV) (σ:ai) (k:ai->Option ρ):Option ρ:=
 match aw.qI 3 T f with
 |some fn=>match fn.mu.fu with
  |3=>match Bz as with
   |some eI=>match zm fn.mu.tl eI with
    |[n]=>EI σ.h (IE σ.h [n]) fn.mu.tl eI fun ds its=>match its with
     |[(.row n',_)]=>cE n' n (match σ.h n with
      |some (.row _ _ ts xs)=>match oF fn.args ds with
       |some x=>(fn.F x).ae fun y=>match jf fn.aC y with
        |[(.one,[⟨.int _,a⟩]),(.one,[⟨.int _,b⟩])]=>(iY a b (af xs)).ae fun p=>k (σ.put d (.one (.sl n ts.length p.1 p.2)))
        |_=>none
       |none=>none
      |_=>none)
     |_=>none
    |_=>none
   |none=>none
  |_=>none
 |none=>none
theorem arA {T:List aw} {d:Option Nat} {f:FuncId} {as:List SV} {σ:ai} {k:ai->Option ρ} {r:ρ} (h:TG T d f as σ k=some r): ∃v:SV,qF (cV T) f (as.map SV.er) σ.er.h=some v.er/\k (σ.put d v)=some r:=by unfold TG at h;split at h;rename_i fn t;split at h;rename_i r7;split at h;rename_i eI q;split at h;rename_i n hn;obtain⟨ds,its,g,c⟩:=MQ h;split at c;rename_i s md;have m:=(aS c).1;replace c:=(aS c).2;subst m;split at c;rename_i l w ts xs o;split at c;rename_i x hx;rw[eC] at c;obtain⟨y,z,c⟩:=c;split at c;rename_i ka a kb b hy;rw[eC] at c;obtain⟨p,e,c⟩:=c;refine⟨_,?_,c⟩;unfold iY at e;split at e;rename_i cY;injection e with e;subst e;have u:fn.MW (dV fn.args x)=some (Int.toNat a,Int.toNat (@HSub.hSub Int Int Int instHSub b a)):=(by unfold aw.MW;rw[aw.ul,z];simp only[AI,zam];rw[<-th,hy];rfl);have i:σ.er.h=dO σ.h:=rfl;have j:σ.er.h s=some (.row l w ts.length (AT (Ty.aA ts) xs)):=(by simp[ai.er,dO,o,SB.er]);rw[TO] at g;simp only[qF,aw.W5 t,ML q,MP,hn,i,g,sA hx,u];rw[i] at j;simp only[j,if_true];rfl;cases e;cases c;cases c;cases c;cases c;cases h;cases h;cases h;cases h
inductive dt where
 |mv (x:cR)
 |pick (c x y:cR)
 |alloc (zs:List SC)
 |box (sz:Nat) (x:cR)
 |build (zs:List SC) (parts:List (Nat×Nat×cR))
 |fG (ts:List Ty) (parts:List cR)
 |load (ag:Bool) (sz:Nat) (x:cR)
 |store (sz:Nat) (x v:cR)
 |bin (op:BinOp) (x y:cR)
 |nO (op:BinOp) (x y:cR)
 |un (op:UnOp) (x:cR)
 |kx (m:Mode) (ts:List Ty) (by_:Nat) (z:Ty.DL ts) (l c:cR)
 |slice (sz:Nat) (x:cR) (lo hi:Option cR)
 |nZ (off:Nat) (x:cR)
 |nz (sz:Nat) (x i:cR)
 |lH (len:Nat) (x i:cR)
 |Cx (n:Nat)
 |JE (ts:List Ty) (x:cR)
 |D9 (ts:List Ty) (x:cR)
 |ET (ts:List Ty) (x v:cR)
 |JH (m:Mode) (f:FuncId) (xs:List cR)
 |JF (m:Mode) (f:FuncId) (x:cR) (xs:List cR)
 |ext (i:Nat) (x:cR)
 |len (x:cR)
 |append (fl:Bool) (ts:List Ty) (by_:Nat) (x y:cR)
 |mm (mx:Bool) (x y:cR)
 |call (m:Mode) (f:FuncId) (xs:List cR)
 |nP (f:FuncId) (xs:List cR)
 |copy (x y:cR)
 |mG (t:Ty) (z:t.D) (x:cR)
 |jo (m:Mode) (f:FuncId) (xs:List cR)
 |kj (f:FuncId) (xs:List cR)
 |m9 (f:FuncId) (xs:List cR)
 |nQ (f:FuncId) (xs:List cR)
 |nc (m:Mode) (f:FuncId) (xs:List cR)
def aqk:Ty->Bool
 |.list _=>false
 |_=>true
def Em:List Ty->Bool
 |[]=>true
 |t::ts=>aqk t&&Em ts
theorem acA:∀{ts:List Ty} (e:Ty.DL ts),Em ts=true->∀x∈Ty.aA ts e,x.eX=true
 |[],e,_,x,hx=>by cases hx
 |[t],e,h,x,hx=>by simp only[Em,zaO] at h;simp only[Ty.aA,List.mem_singleton] at hx;subst hx;cases t with|list ts=>cases h|_=>rfl
 |t::u::ts,e,h,x,hx=>by rw[Em,co] at h;simp only[Ty.aA,zac] at hx;rcases hx with rfl|hx;(cases t with|list ts=>cases h.1|_=>rfl);exact acA (ts:=u::ts) e.2 h.2 x hx
def dt.er:dt->aV
 |.mv x=>.mv x.er
 |.pick c x y=>.pick c.er x.er y.er
 |.alloc zs=>.alloc (zs.map SC.er)
 |.box sz x=>.box sz x.er
 |.build zs ps=>.build (zs.map SC.er) (ps.map fun p=>(p.1,p.2.1,p.2.2.er))
 |.fG ts ps=>cond (Em ts) (.vQ ts.length (ps.map cR.er)) (.fG ts.length (ps.map cR.er))
 |.load ag sz x=>.load ag sz x.er
 |.store sz x v=>.store sz x.er v.er
 |.bin op x y=>.bin op x.er y.er
 |.nO op x y=>.nO op x.er y.er
 |.un op x=>.un op x.er
 |.kx m ts by_ z l c=>.kx m ts.length by_ (Ty.aA ts z) l.er c.er
 |.slice sz x lo hi=>.slice sz x.er (lo.map cR.er) (hi.map cR.er)
 |.nZ off x=>.nZ off x.er
 |.nz sz x i=>.nz sz x.er i.er
 |.lH q x i=>.lH q x.er i.er
 |.Cx n=>.alloc (Pe n (.c (.int .i64 0)))
 |.JE ts x=>.box ts.length x.er
 |.D9 ts x=>.load true ts.length x.er
 |.ET ts x v=>.store ts.length x.er v.er
 |.JH m f xs=>.call m f (xs.map cR.er)
 |.JF m f x xs=>.call m f (x.er::xs.map cR.er)
 |.ext i x=>.ext i x.er
 |.len x=>.len x.er
 |.append fl ts by_ x y=>.append fl ts.length by_ x.er y.er
 |.mm b x y=>.mm b x.er y.er
 |.call m f xs=>.call m f (xs.map cR.er)
 |.nP f xs=>.nP f (xs.map cR.er)
 |.copy x y=>.copy 1 x.er y.er
 |.mG t z x=>.mG (t.er z) x.er
 |.jo m f xs=>.jo m f (xs.map cR.er)
 |.kj f xs=>.kj f (xs.map cR.er)
 |.m9 f xs=>.m9 f (xs.map cR.er)
 |.nQ f xs=>.nQ f (xs.map cR.er)
 |.nc m f xs=>.nc m f (xs.map cR.er)
theorem tq (σ:ai) (xs:List cR):(xs.map cR.er).map σ.er.ev=(xs.map σ.ev).map SV.er:=by simp[ai.eD]
def IV (ev:cR->SV):List SC->List (Nat×Nat×cR)->Option (List SC)
 |zs,[]=>some zs
 |zs,(off,sz,x)::ps=>match(ev x).cells? with
  |some (_,cs)=>cE cs.length sz (eM (zaw (off+sz) zs.length) (IV ev (cZ zs off cs) ps))
  |none=>none
theorem afd {σ:ai}:∀{ps:List (Nat×Nat×cR)} {a cs:List SC},IV σ.ev a ps=some cs-> rp σ.er.ev (a.map SC.er) (ps.map fun p=>(p.1,p.2.1,p.2.2.er))=some (cs.map SC.er)
 |[],a,cs,h=>by simp only[IV] at h;injection h with h;subst h;rfl
 |(off,sz,x)::ps,a,cs,h=>by simp only[IV] at h;split at h;rename_i b Wa d;have e:=(aS h).1;replace h:=(aS h).2;subst e;have g:=(bT h).1;replace h:=(bT h).2;have c:=afd h;rw[EL] at c;have f:=zaz g;simp only[wt,rp,ai.eD,SV.nf d,AN,f,and_self,if_true,c];cases h
def Mg (l:List TD):Bool:=l.all fun x=>x.1.eX
theorem arq (l:List TD):e9 (dz l)=Mg l:=by simp[e9,dz,Mg,List.all_map,Function.comp_def,Ty.y8]
def Uc (σ:ai) (n:Nat) (gr:Bool) (m:Mode) (ts:List Ty) (xs:List (Ty.DL ts)) (kk off:Nat) (e:Ty.DL ts) (vs:List SC) (k:ai->Option ρ):Option ρ:=
 match sub (Ty.fT ts e) off vs.length with
 |none=>none
 |some iv=>ES σ vs fun cs o σ1=>match nE ts (cZ (Ty.fT ts e) off cs) with
  |none=>none
  |some e'=>match m with
   |.live=>eM (Mg cs&&Mg iv&&(σ1.h n).isSome&& !gr) (k (σ1.ef n (.row gr .live ts (bh xs kk e'))))
   |.aN=>eM (σ1.h n).isSome (k (σ1.ef n (.row gr (match o with|true=>.aN|false=>.aM) ts (bh xs kk e'))))
   |.aM=>eM (σ1.h n).isSome (k (σ1.ef n (.row gr .aM ts (bh xs kk e'))))
theorem Wz (h:Nat->Option SB) (n:Nat):(dO h n).isSome=(h n).isSome:=by unfold dO;cases h n<;>rfl
theorem ar9 {σ:ai} {n:Nat} {p:Bool} {m:Mode} {ts:List Ty} {xs:List (Ty.DL ts)} {d off:Nat} {e:Ty.DL ts} {vs:List SC} {k:ai->Option ρ} {r:ρ} (h:Uc σ n p m ts xs d off e vs k=some r): ∃σ1:ai,oK σ.er n p m ts.length (AT (Ty.aA ts) xs) d off (Ty.aA ts e) (vs.map SC.er)=some σ1.er/\k σ1=some r:=by unfold Uc at h;split at h;cases h;rename_i s t;obtain⟨cs,o,σ1,j,a⟩:=M6 h;have b:sub (Ty.aA ts e) off (vs.map SC.er).length=some (dz s):=(by rw[<-Ty.pN];simp only[dz];rw[t6,AN,t];rfl);split at a;cases a;rename_i f q;have l:cZ (Ty.aA ts e) off (dz cs)=Ty.aA ts f:=(by rw[wV q,<-Ty.pN];simp only[dz];rw[<-EL]);have g:(AT (Ty.aA ts) xs).set d (Ty.aA ts f)=AT (Ty.aA ts) (bh xs d f):=(by show _=AT (Ty.aA ts) (xs.set d f);rw[zaj]);have i:σ1.er.h n=(σ1.h n).map SB.er:=rfl;split at a;have c:=(bT a).1;replace a:=(bT a).2;simp only[co,zav] at c;refine⟨_,?_,a⟩;simp only[oK,b,j,if_true,arq,c.1.1.1,c.1.1.2,i,zaM,c.1.2,c.2,and_self,l,g,ai.oQ,SB.er];have c:=(bT a).1;replace a:=(bT a).2;refine⟨_,?_,a⟩;cases o<;>simp only[oK,b,j,i,zaM,c,l,g,ai.oQ,SB.er,reduceCtorEq,if_false,if_true,zaf,cond_true,cond_false,ite_self];have c:=(bT a).1;replace a:=(bT a).2;refine⟨_,?_,a⟩;cases o<;>simp only[oK,b,j,i,zaM,c,l,g,ai.oQ,SB.er,reduceCtorEq,if_false,if_true,zaf,cond_true,cond_false,ite_self]
def xO (us ts:List Ty) (xs:List (Ty.DL us)):Option (List (Ty.DL ts)):=if h:Ty.oN us ts=true then some (Ty.m8 h▸xs) else none
theorem O0 {us ts:List Ty} {xs:List (Ty.DL us)} {ys:List (Ty.DL ts)} (h:xO us ts xs=some ys):us.length=ts.length/\AT (Ty.aA us) xs=AT (Ty.aA ts) ys/\xs.length=ys.length:=by unfold xO at h;split at h;rename_i a;have:=Ty.m8 a;subst this;injection h with h;rw[<-h];exact⟨rfl,rfl,rfl⟩;cases h
def Tr (σ:ai) (ts:List Ty) (v:SV) (k:List (Ty.DL ts)->Mode->ai->Option ρ):Option ρ:=
 match v with
 |.one (.nil _)=>k [] .aN σ
 |.one (.sl a s lo len)=>match σ.h a with
  |some (.row true m us xs)=>cE s ts.length (cE lo 0 (match xO us ts xs with
   |some ys=>(bj lo len (af ys)).ae fun _=>k ys m (σ.del a)
   |none=>none))
  |_=>none
 |_=>none
theorem Yf {lo len l:Nat} {u:Unit} (h:bj lo len l=some u):lo=0/\len=l:=by unfold bj at h;split at h;rename_i a;exact a;cases h
theorem arl {σ:ai} {ts:List Ty} {v:SV} {k:List (Ty.DL ts)->Mode->ai->Option ρ} {r:ρ} (h:Tr σ ts v k=some r): ∃(xs:List (Ty.DL ts)) (m:Mode) (σ1:ai),rF σ.er ts.length v.er=some (AT (Ty.aA ts) xs,m,σ1.er)/\k xs m σ1=some r:=by unfold Tr at h;split at h;exact⟨[],.aN,σ,rfl,h⟩;rename_i a s lo len;split at h;rename_i m us xs hn;have c:=(aS h).1;replace h:=(aS h).2;subst c;have c:=(aS h).1;replace h:=(aS h).2;subst c;split at h;rename_i ys d;obtain⟨f,g,c3⟩:=O0 d;rw[eC] at h;obtain⟨_,e,h⟩:=h;obtain⟨_,b⟩:=Yf e;replace b:len=ys.length:=b;refine⟨ys,m,σ.del a,?_,h⟩;have i:σ.er.h a=some (.row true m ts.length (AT (Ty.aA ts) ys)):=(by simp[ai.er,dO,hn,SB.er,f,g]);subst b;simp only[SV.er,SC.er,rF,i,AN,and_self,if_true,ai.Kf];cases h;cases h;cases h
theorem aew (ts:List Ty) (xs:List (Ty.DL ts)) (h:Ty.e9 ts=true):fh (AT (Ty.aA ts) xs)=true:=by simp only[fh,IT,zad];rintro _ ⟨e,_,rfl⟩;rw[Ty.Bo];exact h
def Ts (fl:Bool) (σ:ai) (ts:List Ty) (m:Mode) (v:SV) (k:List (Ty.DL ts)->Mode->ai->Option ρ):Option ρ:=
 match v with
 |.one (.nil _)=>k [] m σ
 |.one (.v (.list us) ys)=>match xO us ts ys with
  |some zs=>match fl with
   |true=>eM (Ty.e9 ts) (k zs m σ)
   |false=>match m with
    |.live=>none
    |_=>k zs .aM σ
  |none=>none
 |.one (.sl b s lo len)=>match σ.h b with
  |some (.row gr m' us ys)=>cE s ts.length (match xO us ts ys with
   |some zs=>match fl with
    |true=>eM (Ty.e9 ts) ((cM zs lo len).ae fun ws=>k ws m σ)
    |false=>(bj lo len (af zs)).ae fun _=>match m,m' with
     |.aN,.aN=>k zs .aN (σ.del b)
     |.live,.live=>eM gr (k zs .live (σ.del b))
     |.aM,.aM=>k zs .aM (σ.del b)
     |.aN,.aM=>k zs .aM (σ.del b)
     |.aM,.aN=>k zs .aM (σ.del b)
     |_,_=>none
   |none=>none)
  |_=>none
 |_=>none
theorem arm {fl:Bool} {σ:ai} {ts:List Ty} {m:Mode} {v:SV} {k:List (Ty.DL ts)->Mode->ai->Option ρ} {r:ρ} (h:Ts fl σ ts m v k=some r):
  ∃(ys:List (Ty.DL ts)) (m2:Mode) (σ1:ai),mF fl σ.er ts.length m v.er=some (AT (Ty.aA ts) ys,m2,σ1.er)/\k ys m2 σ1=some r:=by
 unfold Ts at h;split at h
 ·exact⟨[],m,σ,rfl,h⟩
 ·rename_i us ys;split at h
  ·rename_i a d;obtain⟨f,i,q⟩:=O0 d;have l:Ty.er (.list us) ys=.list ts.length (AT (Ty.aA ts) a):=by rw[<-f,<-i];rfl
   split at h
   ·have g:=(bT h).1;replace h:=(bT h).2;refine⟨a,m,σ,?_,h⟩;simp only[SV.er,SC.er,l,mF,if_true,zbh,aew ts a g]
   ·split at h
    ·cases h
    ·rename_i hm;refine⟨a,.aM,σ,?_,h⟩;have w:m≠ .live:=fun e=>hm e;simp only[SV.er,SC.er,l,mF,if_true,Bool.false_and,zaf,if_false,aq w]
  ·cases h
 ·rename_i b s lo len;split at h
  ·rename_i p n us ys hn;have t:=(aS h).1;replace h:=(aS h).2;subst t;split at h
   ·rename_i a d;obtain⟨f,i,q⟩:=O0 d;have j:σ.er.h b=some (.row p n ts.length (AT (Ty.aA ts) a)):=by simp[ai.er,dO,hn,SB.er,f,i]
    split at h
    ·have g:=(bT h).1;replace h:=(bT h).2;rw[eC] at h;obtain⟨ws,y,h⟩:=h;obtain⟨x,u⟩:=afY y;refine⟨ws,m,σ,?_,h⟩;simp only[SV.er,SC.er,mF,j,AN,x,u,and_self,if_true,zbh,aew ts ws g]
    ·rw[eC] at h;obtain⟨_,z,h⟩:=h;obtain⟨rfl,c⟩:=Yf z
     replace c:len=a.length:=c
     subst c;have qV:zaC a.length (AT (Ty.aA ts) a)=AT (Ty.aA ts) a:=by
      rw[zaT];simp
     cases m<;>cases n<;>first
      |(cases h;done)
      |exact⟨a,_,σ.del b,by simp[SV.er,SC.er,mF,j,ai.Kf],h⟩
      |exact⟨a,_,σ.del b,by have o:=(bT h).1;subst o;simp[SV.er,SC.er,mF,j,ai.Kf],(bT h).2⟩
   ·cases h
  ·cases h
 ·cases h
end
end
theorem anA {α β:Type} (f:α->β) {l:List α} {i:Nat} {e:α} (h:l[i]? =some e):(l.map f)[i]? =some (f e):=by rw[By,h];rfl
section
variable {ρ:Type}
def Ib:Bool->Mode
 |true=>.aN
 |false=>.aM
theorem apl (o:Bool):(if o=true then Mode.aN else .aM)=Ib o:=by cases o<;>rfl
def LM (σ:ai) (d:Int) (o:Option cR):Option Int:=
 match o with
 |none=>some d
 |some q=>(σ.ev q).d6
theorem LN {σ:ai} {d l:Int} {o:Option cR} (h:LM σ d o=some l):(match o.map cR.er with|none=>some d|some q=>(σ.er.ev q).d6)=some l:=by cases o with|none=>exact h|some q=>simp only[AI,ai.eD];exact SV.AR h
def Bq:List SC->Option (List TD)
 |[]=>some []
 |.v t x::l=>match t.eX with
  |true=>match Bq l with
   |some ds=>some (⟨t,x⟩::ds)
   |none=>none
  |false=>none
 |_::_=>none
theorem aeB:∀{vs:List SC} {ds:List TD},Bq vs=some ds->mH (vs.map SC.er)=some (dz ds)
 |[],ds,h=>by simp only[Bq] at h;injection h with h;subst h;rfl
 |c::vs,ds,h=>by cases c with|v t x=>simp only[Bq] at h;split at h;rename_i a;split at h;rename_i l hl;injection h with h;subst h;simp only[wt,SC.er,mH,Ty.y8,a,if_true,aeB hl,dz,AI];cases h;cases h|_=>simp[Bq] at h
def Ub (us:List Ty) (e:Ty.DL us) (off s i:Nat) (vs:List SC) (k:Ty.DL us->Option ρ):Option ρ:=
 match(Ty.fT us e)[off]? with
 |some ⟨.list ts,ys⟩=>cE ts.length s (cE vs.length s (eM (Ty.e9 ts) ((cP (α:=Ty.DL ts) ys i).ae fun _=>match Bq vs with
  |some ds=>match nE ts ds with
   |some el=>match IC us e off ⟨.list ts,bh (α:=Ty.DL ts) ys i el⟩ with
    |some e'=>k e'
    |none=>none
   |none=>none
  |none=>none)))
 |_=>none
theorem arH {us ts:List Ty} {xs:List (Ty.DL us)} {a off i:Nat} {e b:Ty.DL us} {vs:List SC} {ds:List TD} {c n:Ty.DL ts} (ys:List (Ty.DL ts)) (f:xs[a]? =some e) (hd:(Ty.fT us e)[off]? =some ⟨.list ts,ys⟩) (h:vs.length=ts.length) (k:Ty.e9 ts=true) (hy:ys[i]? =some n) (j:Bq vs=some ds) (m:nE ts ds=some c) (l:IC us e off ⟨.list ts,bh ys i c⟩=some b): xi (AT (Ty.aA us) xs) a off ts.length i (vs.map SC.er)=some (AT (Ty.aA us) (bh xs a b)):=by have o:(Ty.aA us e)[off]? =some (.list ts.length (AT (Ty.aA ts) ys)):=J2 hd;have hx:(AT (Ty.aA us) xs)[a]? =some (Ty.aA us e):=(by rw[By,f];rfl);have g:i<(AT (Ty.aA ts) ys).length:=(by rw[AN];exact(If.1 hy).1);have d:Ty.aA us b=(Ty.aA us e).set off (.list ts.length (AT (Ty.aA ts) (bh ys i c))):=TI l;unfold xi;rw[hx,zam,o];simp only;rw[ak ⟨trivial,by simpa using h,g,xg ts ys k⟩,aeB j,zab,hx];simp only[AI,Option.getD_some];unfold bh at d⊢;rw[zaj,d,zaj,wV m]
theorem ar8 {us:List Ty} {xs:List (Ty.DL us)} {b:Nat} {e:Ty.DL us} {off s i:Nat} {vs:List SC} {k:Ty.DL us->Option ρ} {r:ρ} (c:xs[b]? =some e) (h:Ub us e off s i vs k=some r): ∃a,xi (AT (Ty.aA us) xs) b off s i (vs.map SC.er)=some (AT (Ty.aA us) (bh xs b a))/\k a=some r:=by unfold Ub at h;split at h;rename_i ts ys hd;have f:=(aS h).1;replace h:=(aS h).2;have m:=(aS h).1;replace h:=(aS h).2;have d:=(bT h).1;replace h:=(bT h).2;rw[eC] at h;obtain⟨y0,hy,h⟩:=h;split at h;rename_i ds g;split at h;rename_i el l;split at h;rename_i a j;subst f;exact⟨a,arH ys c hd m d hy g l j,h⟩;cases h;cases h;cases h;cases h
def fi (T:List aw) (d:Option Nat) (op:dt) (σ:ai) (k:ai->Option ρ):Option ρ:=
 match op with
 |.mv x=>k (σ.put d (σ.ev x))
 |.pick c x y=>match σ.ev c with
  |.one (.v .bool b)=>match σ.ev x,σ.ev y with
   |.one (.v t x'),.one (.v u y')=>match Ty.cast u t y' with
    |some z=>k (σ.put d (.one (.v t (au b x' z))))
    |none=>au b (k (σ.put d (σ.ev x))) (k (σ.put d (σ.ev y)))
   |_,_=>au b (k (σ.put d (σ.ev x))) (k (σ.put d (σ.ev y)))
  |_=>none
 |.alloc zs=>match d with
  |some n=>match σ.ins n (.box zs) with
   |some σ1=>k (σ1.put d (.one (.ptr n 0 0 0)))
   |none=>none
  |none=>none
 |.box sz x=>match d,(σ.ev x).cells? with
  |some n,some (_,cs)=>cE cs.length sz (match σ.ins n (.box cs) with
   |some σ1=>k (σ1.put d (.one (.ptr n 0 0 0)))
   |none=>none)
  |_,_=>none
 |.build zs parts=>match IV σ.ev zs parts with
  |some cs=>k (σ.put d (.agg cs))
  |none=>none
 |.fG ts parts=>match d with
  |some n=>M5 ts σ (parts.map σ.ev) fun es o σ1=>match σ1.ins n (.row true (Ib o) ts es) with
   |some σ2=>k (σ2.put d (.one (.sl n ts.length 0 es.length)))
   |none=>none
  |none=>none
 |.load ag sz x=>match σ.ev x with
  |.one p=>MK σ.h p sz fun cs=>k (σ.put d (E5 ag cs))
  |_=>none
 |.store sz x v=>match σ.ev x,(σ.ev v).cells? with
  |.one (.ptr n kk aD off),some (_,vs)=>cE vs.length sz (match σ.h n with
   |some (.box cs)=>cE kk 0 (eM (zaw (off+sz) cs.length) (k (σ.ef n (.box (cZ cs off vs)))))
   |some (.row gr m ts xs)=>cE aD ts.length ((cP xs kk).ae fun e=>Uc σ n gr m ts xs kk off e vs k)
   |some (.eP ts x)=>cE kk 0 (match vs with
    |[.v (.int .i64) w]=>(zd ts x off w).ae fun y=>k (σ.ef n (.eP ts y))
    |_=>none)
   |none=>none)
  |.one (.cX n kk aD off s i),some (_,vs)=>cE vs.length sz (match σ.h n with
   |some (.row false .live us xs)=>cE aD us.length ((cP xs kk).ae fun e=>Ub us e off s i vs fun e'=>k (σ.ef n (.row false .live us (bh xs kk e'))))
   |_=>none)
  |_,_=>none
 |.bin op x y=>OR op (σ.ev x) (σ.ev y) fun t z=>k (σ.put d (.one (.v t z)))
 |.nO op x y=>OQ op (σ.ev x) (σ.ev y) fun t z=>k (σ.put d (.one (.v t z)))
 |.un op x=>Ux op (σ.ev x) fun t z=>k (σ.put d (.one (.v t z)))
 |.kx m ts by_ z l c=>match d,(σ.ev l).d6,(σ.ev c).d6 with
  |some n,some a,some b=>(mr a b by_).ae fun len=>match σ.ins n (.row true m ts (dn len z)) with
   |some σ1=>k (σ1.put d (.one (.sl n ts.length 0 len)))
   |none=>none
  |_,_,_=>none
 |.slice sz x lo hi=>
  match σ.ev x,LM σ 0 lo with
  |.one (.sl n s l0 len),some l=>
   match LM σ (aU len) hi with
   |some h=>cE s sz (eM (σ.h n).isSome ((iY l h len).ae fun p=>k (σ.put d (.one (.sl n s (aE l0 p.1) p.2)))))
   |none=>none
  |.one (.v (.list ts) xs),some l=>
   match LM σ (aU (af (α:=Ty.DL ts) xs)) hi with
   |some h=>cE ts.length sz ((iY l h (af (α:=Ty.DL ts) xs)).ae fun p=>k (σ.put d (.one (.v (.list ts) (iy (α:=Ty.DL ts) xs p.1 p.2)))))
   |none=>none
  |_,_=>none
 |.nZ off x=>match σ.ev x with
  |.one (.ptr n kk sz o)=>eM (σ.h n).isSome (k (σ.put d (.one (.ptr n kk sz (o+off)))))
  |.one (.di ts x o)=>k (σ.put d (.one (.di ts x (o+off))))
  |.one (.cO ts x o j n s len)=>k (σ.put d (.one (.cO ts x (o+off) j n s len)))
  |_=>none
 |.nz sz x i=>match σ.ev x,(σ.ev i).d6 with
  |.one (.sl n s lo len),some j=>cE s sz (eM (σ.h n).isSome ((dw j len).ae fun q=>k (σ.put d (.one (.ptr n (aE lo q) s 0)))))
  |.one (.v (.list ts) xs),some j=>cE ts.length sz ((cW (α:=Ty.DL ts) xs j).ae fun e=>k (σ.put d (.one (.di ts e 0))))
  |.one (.bz n kk aD off s len),some j=>xo σ.h (.bz n kk aD off s len) fun t x=>match t,x with
   |.list ts,ys=>cE ts.length sz ((dw j (af (α:=Ty.DL ts) ys)).ae fun q=>k (σ.put d (.one (.cX n kk aD off sz q))))
   |_,_=>none
  |_,_=>none
 |.lH q x i=>match σ.ev x,(σ.ev i).d6 with
  |.one (.ptr n kk sz o),some j=>eM (σ.h n).isSome ((dw j q).ae fun p=>k (σ.put d (.one (.ptr n kk sz (aE o p)))))
  |_,_=>none
 |.Cx q=>match d with
  |some n=>match σ.ins n (.eP (Pe q (.int .i64)) (xu q)) with
   |some σ1=>k (σ1.put d (.one (.ptr n 0 0 0)))
   |none=>none
  |none=>none
 |.JE ts x=>match d,σ.ev x with
  |some n,.arr us y=>eM (Ty.oN us ts) (match σ.ins n (.eP us y) with
   |some σ1=>k (σ1.put d (.one (.ptr n 0 0 0)))
   |none=>none)
  |_,_=>none
 |.D9 ts x=>match σ.ev x with
  |.one (.ptr n kk sz off)=>match σ.h n with
   |some (.eP us y)=>cE kk 0 (cE off 0 (eM (Ty.oN us ts) (k (σ.put d (.arr us y)))))
   |_=>none
  |_=>none
 |.ET ts x v=>match σ.ev x,σ.ev v with
  |.one (.ptr n kk sz off),.arr us z=>match σ.h n with
   |some (.eP vs y)=>cE kk 0 (cE off 0 (eM (Ty.oN us ts&&Ty.oN vs ts) (k (σ.ef n (.eP us z)))))
   |_=>none
  |_,_=>none
 |.JH m f xs=>TF T m d f (xs.map σ.ev) σ k
 |.JF m f x xs=>match σ.ev x with
  |.arr ts y=>Tz T m d f ts y (xs.map σ.ev) σ k
  |_=>none
 |.ext i x=>match σ.ev x with
  |.bH xs=>match xs[i]? with
   |some (ag,cs)=>k (σ.put d (E5 ag cs))
   |none=>none
  |.kZ ts y xs=>match i with
   |0=>k (σ.put d (.arr ts y))
   |j+1=>match xs[j]? with
    |some (ag,cs)=>k (σ.put d (E5 ag cs))
    |none=>none
  |_=>none
 |.len x=>match σ.ev x with
  |.one (.sl n sz lo len)=>eM (σ.h n).isSome (k (σ.put d (.one (.v (.int .i64) (aU len)))))
  |.one (.v (.list ts) xs)=>k (σ.put d (.one (.v (.int .i64) (aU (af (α:=Ty.DL ts) xs)))))
  |.one (.nil ts)=>k (σ.put d (.one (.v (.int .i64) (0:Int))))
  |.one (.bz n kk aD off sz len)=>xo σ.h (.bz n kk aD off sz len) fun t x=>match t,x with
   |.list ts,ys=>k (σ.put d (.one (.v (.int .i64) (aU (af (α:=Ty.DL ts) ys)))))
   |_,_=>none
  |_=>none
 |.append fl ts by_ x y=>match d with
  |none=>none
  |some n=>Tr σ ts (σ.ev x) fun xs m σ1=>Ts fl σ1 ts m (σ.ev y) fun ys m2 σ2=>
   (n3 (aE (af xs) (af ys)) by_).ae fun _=>match σ2.ins n (.row true m2 ts (eR xs ys)) with
    |some gZ=>k (gZ.put d (.one (.sl n ts.length 0 (aE (af xs) (af ys)))))
    |none=>none
 |.mm mx x y=>match σ.ev x,σ.ev y with
  |.one (.v (.int kd) a),.one (.v (.int Z2) b)=>match mx with
   |true=>k (σ.put d (.one (.v (.int kd) (sx a b))))
   |false=>k (σ.put d (.one (.v (.int kd) (oE a b))))
  |_,_=>none
 |.call m f xs=>Tx T m d f (xs.map σ.ev) σ k
 |.nP f xs=>TB T d f (xs.map σ.ev) σ k
 |.copy x y=>match σ.ev x,σ.ev y with
  |.one (.sl n s lo len),.one c=>match σ.h n with
   |some (.row gr m ts xs)=>cE s 1 (cE ts.length 1 (eM (m.own&&Ty.e9 ts) (xo σ.h c fun u ys=>match u,ys with
    |.list us,ys=>match Ty.cast (.list us) (.list ts) ys with
     |some zs=>(Ad (α:=Ty.DL ts) xs lo len (zaC (α:=Ty.DL ts) len zs)).ae fun av=>k ((σ.ef n (.row gr m ts av)).put d (.one (.v (.int .i64) (aU (Nat.min (af (α:=Ty.DL ts) zs) len)))))
     |none=>none
    |_,_=>none)))
   |_=>none
  |_,_=>none
 |.mG t z x=>match σ.ev x with
  |.one (.sl n s lo len)=>match σ.h n with
   |some (.row gr m ts xs)=>cE s 1 (eM (m.own&&t.eX) (match nE ts [⟨t,z⟩] with
    |some e=>(Ad (α:=Ty.DL ts) xs lo len (dn len e)).ae fun av=>k ((σ.ef n (.row gr m ts av)).put d (.bH []))
    |none=>none))
   |_=>none
  |_=>none
 |.jo m f xs=>TC T m d f (xs.map σ.ev) σ k
 |.kj f xs=>TA T d f (xs.map σ.ev) σ k
 |.m9 f xs=>TG T d f (xs.map σ.ev) σ k
 |.nQ f xs=>TE T d f (xs.map σ.ev) σ k
 |.nc m f xs=>TH T m d f (xs.map σ.ev) σ k
theorem wa {σ:ai} {n:Nat} {b:SB} (h:σ.h n=some b):σ.er.h n=some b.er:=by simp[ai.er,dO,h]
theorem F6 {σ:ai} {n:Nat} (h:(σ.h n).isSome=true):(σ.er.h n).isSome=true:=by simp only[ai.er,Wz,h]
theorem UB (t:Ty) (x:t.D):(SV.one (.v t x)).er=.one (.c (t.er x)):=rfl
theorem V9 {ts:List Ty} {xs a ys:List (Ty.DL ts)} {lo len:Nat} (h:Ad xs lo len ys=some a):lo+len<=xs.length/\AT (Ty.aA ts) a=cZ (AT (Ty.aA ts) xs) lo (AT (Ty.aA ts) ys):=by unfold Ad at h;split at h;rename_i b;injection h with h;subst h;exact⟨b,EL (Ty.aA ts) xs ys lo⟩;cases h
theorem Ty.ag6 {t u:Ty} {x:t.D} {y:u.D} (h:Ty.cast t u x=some y):t.er x=u.er y:=by unfold Ty.cast at h;split at h;rename_i a;have:=Ty.beq_eq a;subst this;injection h with h;rw[<-h];cases h
theorem aeF {T:List aw} {d:Option Nat} {op:dt} {σ:ai} {k:ai->Option ρ} {r:ρ} (h:fi T d op σ k=some r):
  ∃σ1:ai,exec (cV T) d op.er σ.er=some σ1.er/\k σ1=some r:=by
 cases op with
 |mv x=>exact⟨_,by simp only[dt.er,exec,ai.ew,ai.eD],h⟩
 |pick c x y=>
  simp only[fi] at h;split at h
  ·rename_i b M;have X:σ.er.ev c.er=.one (.c (.bool b)):=by rw[ai.eD,M];rfl
   have cU:∀σ1:ai,σ1.er=σ.er.put d (cond b (σ.ev x).er (σ.ev y).er)->exec (cV T) d (dt.er (.pick c x y)) σ.er=some σ1.er:=by
    intro σ1 e;simp only[dt.er,exec,X,ai.eD,e];cases b<;>rfl
   have gen:au b (k (σ.put d (σ.ev x))) (k (σ.put d (σ.ev y)))=some r->∃σ1:ai,exec (cV T) d (dt.er (.pick c x y)) σ.er=some σ1.er/\k σ1=some r:=by
    intro h;cases C:(b:Bool) with
    |true=>rw[C] at h;exact⟨_,cU _ (by rw[ai.ew,C];rfl),h⟩
    |false=>rw[C] at h;exact⟨_,cU _ (by rw[ai.ew,C];rfl),h⟩
   split at h
   ·rename_i t x' u y' ex ey;split at h
    ·rename_i z P;refine⟨_,cU _ ?_,h⟩;rw[ai.ew,ex,ey,UB,UB,UB,Ty.O1 P];cases (b:Bool)<;>rfl
    ·exact gen h
   ·exact gen h
  ·cases h
 |alloc N=>
  simp only[fi] at h;split at h
  ·rename_i n;split at h
   ·rename_i σ1 e;have:=ai.tp e;exact⟨_,by simp only[dt.er,exec];rw[show ar.box (N.map SC.er)=(SB.box N).er from rfl,this,ai.ew];rfl,h⟩
   ·cases h
  ·cases h
 |box sz x=>
  simp only[fi] at h;split at h
  ·rename_i n b cs M;have E:=(aS h).1;replace h:=(aS h).2;subst E;split at h
   ·rename_i σ1 e;have:=ai.tp e;refine⟨_,?_,h⟩;simp only[dt.er,exec,ai.eD,SV.nf M,AN,if_true];rw[show ar.box (cs.map SC.er)=(SB.box cs).er from rfl,this,ai.ew];rfl
   ·cases h
  ·cases h
 |build N parts=>
  simp only[fi] at h;split at h
  ·rename_i cs M;exact⟨_,by simp only[dt.er,exec,afd M,ai.ew];rfl,h⟩
  ·cases h
 |fG ts parts=>
  simp only[fi] at h;split at h
  ·rename_i n;obtain⟨es,o,σ1,D,A⟩:=afe h;split at A
   ·rename_i σ2 e;have i:=ai.tp e;refine⟨_,?_,A⟩;have:(SB.row true (Ib o) ts es).er=ar.row true (Ib o) ts.length (AT (Ty.aA ts) es):=rfl;cases B:Em ts with
    |true=>
     obtain⟨p1,p2,p3⟩:=afy D fun e K=>by
      obtain⟨y,_,rfl⟩:=zad.1 K;exact acA y B
     simp only[dt.er,B,cond_true,exec,tq,p1,ai.ew];rw[p2] at this i;rw[<-p3,show Mode.aN=Ib true from rfl,<-this,i,AN]
     rfl
    |false=>
     simp only[dt.er,B,cond_false,exec,tq,D,ai.ew];rw[apl,<-this,i,AN];rfl
   ·cases A
  ·cases h
 |load ag sz x=>
  simp only[fi] at h;split at h
  ·rename_i p B;obtain⟨l,D,A⟩:=aeQ h;have g:σ.er.ev x.er=.one p.er:=by rw[ai.eD,B];rfl
   have W:loadAt σ.er.h p.er sz=some (l.map SC.er):=D;exact⟨_,by simp only[dt.er,exec,g,W,ai.ew,I3],A⟩
  ·cases h
 |store sz x v=>
  simp only[fi] at h;split at h
  ·rename_i n I Q off b vs B M;have E:=(aS h).1;replace h:=(aS h).2;subst E;have g:σ.er.ev x.er=.one (.ptr n I Q off):=by rw[ai.eD,B];rfl
   have X:(σ.er.ev v.er).cells?=some (b,vs.map SC.er):=by rw[ai.eD];exact SV.nf M
   split at h
   ·rename_i cs hn;have E:=(aS h).1;replace h:=(aS h).2;subst E;have C:=(bT h).1;replace h:=(bT h).2;have gG:=zaz C;refine⟨_,?_,h⟩;simp only[dt.er,exec,g,X,AN,if_true,wa hn,SB.er,gG,and_self,ai.oQ,<-EL]
   ·rename_i gr m ts xs hn;have E:=(aS h).1;replace h:=(aS h).2;subst E;rw[eC] at h;obtain⟨e,K,h⟩:=h
    replace K:xs[I]? =some e:=K
    obtain⟨σ1,s1,s2⟩:=ar9 h;refine⟨σ1,?_,s2⟩;have ko:(AT (Ty.aA ts) xs)[I]? =some (Ty.aA ts e):=by rw[By,K];rfl
    simp only[dt.er,exec,g,X,AN,if_true,wa hn,SB.er,ko,s1]
   ·rename_i ts y hn;have E:=(aS h).1;replace h:=(aS h).2;subst E;split at h
    ·rename_i w;rw[eC] at h;obtain⟨z,P,h⟩:=h;obtain⟨q1,q2⟩:=arE P;have cm:off<((Ty.aA ts y).map ah.c).length:=by rw[AN,Ty.pP];exact q1
     have H:cZ ((Ty.aA ts y).map ah.c) off [ah.c (.int .i64 w)]=(Ty.aA ts z).map .c:=by
      rw[q2,zaj,List.set_eq_take_append_cons_drop,ak cm];simp[cZ]
     have gG:off+[SC.v (.int .i64) w].length<=((Ty.aA ts y).map ah.c).length:=cm;refine⟨_,?_,h⟩;simp only[dt.er,exec,g,X,AN,if_true,wa hn,SB.er];rw[ai.oQ];refine(ak ⟨trivial,?_⟩).trans (congrArg (fun l=>some (σ.er.ef n (ar.box l))) H);rw[AN] at gG;exact gG
    ·cases h
   ·cases h
  ·rename_i n I Q off s i b vs B M;have E:=(aS h).1;replace h:=(aS h).2;subst E;have g:σ.er.ev x.er=.one (.cX n I Q off s i):=by rw[ai.eD,B];rfl
   have X:(σ.er.ev v.er).cells?=some (b,vs.map SC.er):=by rw[ai.eD];exact SV.nf M
   split at h
   ·rename_i gr us xs hn;have E:=(aS h).1;replace h:=(aS h).2;subst E;rw[eC] at h;obtain⟨e,K,h⟩:=h
    replace K:xs[I]? =some e:=K
    obtain⟨e',s1,s2⟩:=ar8 K h;refine⟨_,?_,s2⟩;simp only[dt.er,exec,g,X,AN,if_true,wa hn,SB.er,s1,ai.oQ]
   ·cases h
  ·cases h
 |bin op x y=>
  simp only[fi] at h;obtain⟨t,z,D,A⟩:=agT h;exact⟨_,by simp only[dt.er,exec,ai.eD,D,ai.ew];rfl,A⟩
 |nO op x y=>
  simp only[fi] at h;obtain⟨t,z,D,A⟩:=agR h;exact⟨_,by simp only[dt.er,exec,ai.eD,D,ai.ew];rfl,A⟩
 |un op x=>
  simp only[fi] at h;obtain⟨t,z,D,A⟩:=asF h;exact⟨_,by simp only[dt.er,exec,ai.eD,D,ai.ew];rfl,A⟩
 |kx m ts by_ z l c=>
  simp only[fi] at h;split at h
  ·rename_i n a b ha C;rw[eC] at h;obtain⟨len,hm,h⟩:=h;unfold mr at hm;split at hm
   ·rename_i F;injection hm with hm;subst hm;split at h
    ·rename_i σ1 e;have i:=ai.tp e;have tz:(σ.er.ev l.er).d6=some a:=by rw[ai.eD];exact SV.AR ha
     have aO:(σ.er.ev c.er).d6=some b:=by rw[ai.eD];exact SV.AR C
     refine⟨_,?_,h⟩;have P:(Ty.aA ts z).length=ts.length:=Ty.pP ts z;have fo:(SB.row true m ts (dn a.toNat z)).er=ar.row true m ts.length (Pe a.toNat (Ty.aA ts z)):=by simp[SB.er,dn,zaH]
     have Qq:a<=b/\0<=a/\b.toNat*by_<=fQ/\(Ty.aA ts z).length=ts.length:=⟨F.1,F.2.1,F.2.2,P⟩;simp only[dt.er,exec,tz,aO,ak Qq,<-fo,i,ai.ew];rfl
    ·cases h
   ·cases hm
  ·cases h
 |slice sz x lo L=>
  simp only[fi] at h;split at h
  ·rename_i n s l0 len l B el;have g:σ.er.ev x.er=.one (.sl n s l0 len):=by rw[ai.eD,B];rfl
   split at h
   ·rename_i U eh;have E:=(aS h).1;replace h:=(aS h).2;subst E;have C:=(bT h).1;replace h:=(bT h).2;rw[eC] at h;obtain⟨p,H,h⟩:=h;unfold iY at H;split at H
    ·rename_i F;injection H with H;subst H;refine⟨_,?_,h⟩;have S:s=s/\0<=l/\l<=U/\U<=len/\(σ.er.h n).isSome=true:=⟨rfl,F.1,F.2.1,F.2.2,F6 C⟩;have O:=LN el;have J:=LN eh;rw[ai.ew];cases lo with
     |none=>
      simp only[Pd,zaa] at O;subst O;cases L with
      |none=>
       simp only[Pd,zaa] at J;subst J;simp only[dt.er,exec,g,Pd];exact ak ⟨trivial,S.2⟩
      |some q=>
       simp only[AI] at J;simp only[dt.er,exec,g,Pd,AI,J];exact ak ⟨trivial,S.2⟩
     |some q0=>
      simp only[AI] at O;cases L with
      |none=>
       simp only[Pd,zaa] at J;subst J;simp only[dt.er,exec,g,Pd,AI,O];exact ak ⟨trivial,S.2⟩
      |some q=>
       simp only[AI] at J;simp only[dt.er,exec,g,AI,O,J];exact ak ⟨trivial,S.2⟩
    ·cases H
   ·cases h
  ·rename_i ts xs l B el;have g:σ.er.ev x.er=.one (.c (.list ts.length (AT (Ty.aA ts) xs))):=by rw[ai.eD,B];rfl
   split at h
   ·rename_i U eh;have E:=(aS h).1;replace h:=(aS h).2;subst E;rw[eC] at h;obtain⟨p,H,h⟩:=h;unfold iY at H;split at H
    ·rename_i F;injection H with H;subst H;refine⟨_,?_,h⟩;have S:ts.length=ts.length/\0<=l/\l<=U/\U<=(AT (Ty.aA ts) xs).length:=⟨rfl,F.1,F.2.1,Int.le_trans F.2.2 (Int.le_of_eq (congrArg _ (AN (Ty.aA ts)).symm))⟩;have O:=LN el;have J:(match L.map cR.er with|none=>some (((AT (Ty.aA ts) xs).length:Nat):Int)|some q=>(σ.er.ev q).d6)=some U:=by rw[show(AT (Ty.aA ts) xs).length=zaE (α:=Ty.DL ts) xs from AN (Ty.aA ts)];exact LN eh
     rw[ai.ew];have KH:AT (Ty.aA ts) (zaC (U - l).toNat (zbk (α:=Ty.DL ts) l.toNat xs))=((AT (Ty.aA ts) xs).drop l.toNat).take (U - l).toNat:=by
      rw[zat];exact congrArg (zaC (U - l).toNat) zaN
     refine Eq.trans ?_ (congrArg (fun q=>some (σ.er.put d (ao.one (.c (.list ts.length q))))) KH.symm);cases lo with
     |none=>
      simp only[Pd,zaa] at O;subst O;cases L with
      |none=>
       simp only[Pd,zaa] at J;subst J;simp only[dt.er,exec,g,Pd];exact ak ⟨trivial,S.2⟩
      |some q=>
       simp only[AI] at J;simp only[dt.er,exec,g,Pd,AI,J];exact ak ⟨trivial,S.2⟩
     |some q0=>
      simp only[AI] at O;cases L with
      |none=>
       simp only[Pd,zaa] at J;subst J;simp only[dt.er,exec,g,Pd,AI,O];exact ak ⟨trivial,S.2⟩
      |some q=>
       simp only[AI] at J;simp only[dt.er,exec,g,AI,O,J];exact ak ⟨trivial,S.2⟩
    ·cases H
   ·cases h
  ·cases h
 |nZ off x=>
  simp only[fi] at h;split at h
  ·rename_i n I sz o B;have C:=(bT h).1;replace h:=(bT h).2;have g:σ.er.ev x.er=.one (.ptr n I sz o):=by rw[ai.eD,B];rfl
   exact⟨_,by simp only[dt.er,exec,g,F6 C,if_true,ai.ew];rfl,h⟩
  ·rename_i ts y o B;have g:σ.er.ev x.er=.one (.di (Ty.aA ts y) o):=by rw[ai.eD,B];rfl
   exact⟨_,by simp only[dt.er,exec,g,ai.ew];rfl,h⟩
  ·rename_i ts y o j n s len B;have g:σ.er.ev x.er=.one (.cO (Ty.aA ts y) o j n s len):=by rw[ai.eD,B];rfl
   exact⟨_,by simp only[dt.er,exec,g,ai.ew];rfl,h⟩
  ·cases h
 |lH q x i=>
  simp only[fi] at h;split at h
  ·rename_i n I sz o j B L;have C:=(bT h).1;replace h:=(bT h).2;rw[eC] at h;obtain⟨p,G,h⟩:=h;unfold dw at G;split at G
   ·rename_i F;injection G with G;subst G;have g:σ.er.ev x.er=.one (.ptr n I sz o):=by rw[ai.eD,B];rfl
    have Y:(σ.er.ev i.er).d6=some j:=by rw[ai.eD];exact SV.AR L
    refine⟨_,?_,h⟩;simp only[dt.er,exec,g,Y,ai.ew];exact ak ⟨F.1,F.2,F6 C⟩
   ·cases G
  ·cases h
 |Cx q=>
  simp only[fi] at h;split at h
  ·rename_i n;split at h
   ·rename_i σ1 e;have:=ai.tp e;have P:(SB.eP (Pe q (.int .i64)) (xu q)).er=.box (Pe q (.c (.int .i64 0))):=by
     simp only[SB.er,af4,zaH]
    rw[P] at this;exact⟨_,by simp only[dt.er,exec];rw[this,ai.ew];rfl,h⟩
   ·cases h
  ·cases h
 |JE ts x=>
  simp only[fi] at h;split at h
  ·rename_i n us y B;have C:=Ty.m8 (bT h).1;replace h:=(bT h).2;subst C;split at h
   ·rename_i σ1 e;have:=ai.tp e;have g:σ.er.ev x.er=.agg ((Ty.aA us y).map .c):=by rw[ai.eD,B];rfl
    refine⟨_,?_,h⟩;simp only[dt.er,exec,g,ao.cells?,AN,Ty.pP,if_true];rw[show ar.box ((Ty.aA us y).map .c)=(SB.eP us y).er from rfl,this,ai.ew]
    rfl
   ·cases h
  ·cases h
 |D9 ts x=>
  simp only[fi] at h;split at h
  ·rename_i n I sz off B;split at h
   ·rename_i us y hn;have E:=(aS h).1;replace h:=(aS h).2;subst E;have E:=(aS h).1;replace h:=(aS h).2;subst E;have C:=Ty.m8 (bT h).1;replace h:=(bT h).2;subst C;have g:σ.er.ev x.er=.one (.ptr n 0 sz 0):=by rw[ai.eD,B];rfl
    have H:sub ((Ty.aA us y).map ah.c) 0 us.length=some ((Ty.aA us y).map ah.c):=by
     unfold sub;rw[ak (by simp[Ty.pP]),za0,zaT (by simp[Ty.pP])]
    refine⟨_,?_,h⟩;simp only[dt.er,exec,g,loadAt,wa hn,SB.er,if_true,H,ai.ew];rfl
   ·cases h
  ·cases h
 |ET ts x v=>
  simp only[fi] at h;split at h
  ·rename_i n I sz off us z B hv;split at h
   ·rename_i vs y hn;have E:=(aS h).1;replace h:=(aS h).2;subst E;have E:=(aS h).1;replace h:=(aS h).2;subst E;have C:=(bT h).1;replace h:=(bT h).2;simp only[co] at C;have b1:=Ty.m8 C.1;have b2:=Ty.m8 C.2;subst b1 b2;have g:σ.er.ev x.er=.one (.ptr n 0 sz 0):=by rw[ai.eD,B];rfl
    have fY:σ.er.ev v.er=.agg ((Ty.aA vs z).map .c):=by rw[ai.eD,hv];rfl
    have H:cZ ((Ty.aA vs y).map ah.c) 0 ((Ty.aA vs z).map ah.c)=(Ty.aA vs z).map .c:=by simp[cZ,Ty.pP]
    refine⟨_,?_,h⟩;simp only[dt.er,exec,g,fY,ao.cells?,wa hn,SB.er,AN,Ty.pP,zba,zau,and_self,if_true,ai.oQ,H]
   ·cases h
  ·cases h
 |JH m f xs=>
  simp only[fi] at h;obtain⟨σ1,D,A⟩:=arz h;exact⟨σ1,by simp only[dt.er,exec,tq];exact D,A⟩
 |JF m f x xs=>
  simp only[fi] at h;split at h
  ·rename_i ts y B;obtain⟨σ1,D,A⟩:=aru h;refine⟨σ1,?_,A⟩;have g:σ.er.ev x.er=(SV.arr ts y).er:=by rw[ai.eD,B]
   simp only[dt.er,exec,wt,g,tq];exact D
  ·cases h
 |nz sz x i=>
  simp only[fi] at h;split at h
  ·rename_i n s lo len j B L;have E:=(aS h).1;replace h:=(aS h).2;subst E;have C:=(bT h).1;replace h:=(bT h).2;rw[eC] at h;obtain⟨q,G,h⟩:=h;unfold dw at G;split at G
   ·rename_i F;injection G with G;subst G;have g:σ.er.ev x.er=.one (.sl n s lo len):=by rw[ai.eD,B];rfl
    have Y:(σ.er.ev i.er).d6=some j:=by rw[ai.eD];exact SV.AR L
    refine⟨_,?_,h⟩;have Qq:s=s/\0<=j/\j<len/\(σ.er.h n).isSome=true:=⟨rfl,F.1,F.2,F6 C⟩;simp only[dt.er,exec,g,Y,ai.ew];exact ak ⟨trivial,Qq.2⟩
   ·cases G
  ·rename_i ts xs j B L;have E:=(aS h).1;replace h:=(aS h).2;subst E;rw[eC] at h;obtain⟨e,K,h⟩:=h;unfold cW at K;split at K
   ·rename_i F;have g:σ.er.ev x.er=.one (.c (.list ts.length (AT (Ty.aA ts) xs))):=by rw[ai.eD,B];rfl
    have Y:(σ.er.ev i.er).d6=some j:=by rw[ai.eD];exact SV.AR L
    have ko:(AT (Ty.aA ts) xs)[j.toNat]? =some (Ty.aA ts e):=anA (Ty.aA ts) K;refine⟨_,?_,h⟩;simp only[dt.er,exec,g,Y,F,and_self,if_true,ko,ai.ew];rfl
   ·cases K
  ·rename_i n I Q off s len j B L;obtain⟨t,y,D,A⟩:=BH h;have g:σ.er.ev x.er=.one (.bz n I Q off s len):=by rw[ai.eD,B];rfl
   have Y:(σ.er.ev i.er).d6=some j:=by rw[ai.eD];exact SV.AR L
   have W:cF σ.er.h (.bz n I Q off s len)=some (t.er y):=D;split at A
   ·rename_i ts ys;have E:=(aS A).1;replace A:=(aS A).2;subst E;rw[eC] at A;obtain⟨q,G,A⟩:=A;unfold dw at G;split at G
    ·rename_i F;injection G with G;subst G;refine⟨_,?_,A⟩;simp only[dt.er,exec,g,Y,W,Ty.er,ai.ew];exact ak ⟨trivial,F.1,by rw[show(AT (Ty.aA ts) ys).length=af (α:=Ty.DL ts) ys from AN (Ty.aA ts)];exact F.2⟩
    ·cases G
   ·cases A
  ·cases h
 |ext i x=>
  simp only[fi] at h;split at h
  ·rename_i xs B;split at h
   ·rename_i ag cs hg;have g:σ.er.ev x.er=.bH (xs.map fun x=>(x.1,x.2.map SC.er)):=by rw[ai.eD,B];rfl
    refine⟨_,?_,h⟩;simp only[dt.er,exec,g,By,hg,AI,ai.ew,I3]
   ·cases h
  ·rename_i ts y xs B;have g:σ.er.ev x.er=.bH ((true,(Ty.aA ts y).map .c)::xs.map fun x=>(x.1,x.2.map SC.er)):=by rw[ai.eD,B];rfl
   split at h
   ·exact⟨_,by simp only[dt.er,exec,g,zas,ai.ew];rfl,h⟩
   ·rename_i j;split at h
    ·rename_i ag cs hg;refine⟨_,?_,h⟩;simp only[dt.er,exec,g,List.getElem?_cons_succ,By,hg,AI,ai.ew,I3]
    ·cases h
  ·cases h
 |len x=>
  simp only[fi] at h;split at h
  ·rename_i n sz lo len B;have C:=(bT h).1;replace h:=(bT h).2;have g:σ.er.ev x.er=.one (.sl n sz lo len):=by rw[ai.eD,B];rfl
   exact⟨_,by simp only[dt.er,exec,g,F6 C,if_true,ai.ew];rfl,h⟩
  ·rename_i ts xs B;have g:σ.er.ev x.er=.one (.c (.list ts.length (AT (Ty.aA ts) xs))):=by rw[ai.eD,B];rfl
   exact⟨_,by simp only[dt.er,exec,g,ai.ew];exact congrArg (fun q:Nat=>some (σ.er.put d (ao.one (.c (.int .i64 (q:Int)))))) (AN (Ty.aA ts)),h⟩
  ·rename_i ts B;have g:σ.er.ev x.er=.one (.nil ts.length):=by rw[ai.eD,B];rfl
   exact⟨_,by simp only[dt.er,exec,g,ai.ew];rfl,h⟩
  ·rename_i n I Q off sz len B;obtain⟨t,y,D,A⟩:=BH h;have g:σ.er.ev x.er=.one (.bz n I Q off sz len):=by rw[ai.eD,B];rfl
   have W:cF σ.er.h (.bz n I Q off sz len)=some (t.er y):=D;split at A
   ·rename_i ts ys;exact⟨_,by simp only[dt.er,exec,g,W,Ty.er,ai.ew];exact congrArg (fun q:Nat=>some (σ.er.put d (ao.one (.c (.int .i64 (q:Int)))))) (AN (Ty.aA ts)),A⟩
   ·cases A
  ·cases h
 |append fl ts by_ x y=>
  simp only[fi] at h;split at h
  ·cases h
  ·rename_i n;obtain⟨xs,m,σ1,D,A⟩:=arl h;obtain⟨ys,m2,σ2,h3,Z⟩:=arm A;rw[eC] at Z;obtain⟨_,hf,Z⟩:=Z;unfold n3 at hf;split at hf
   ·rename_i C;split at Z
    ·rename_i gZ e;have i:=ai.tp e;refine⟨_,?_,Z⟩
     replace C:(xs.length+ys.length)*by_<=fQ:=C
     have fo:(SB.row true m2 ts (eR xs ys)).er=ar.row true m2 ts.length (AT (Ty.aA ts) xs++AT (Ty.aA ts) ys):=by simp[SB.er,eR]
     simp only[dt.er,exec,ai.eD,D,h3,AN,C,if_true,<-fo,i,ai.ew];rfl
    ·cases Z
   ·cases hf
 |mm mx x y=>
  simp only[fi] at h;split at h
  ·rename_i kd a Z2 b ex ey;have WC:σ.er.ev x.er=.one (.c (.int kd a)):=by rw[ai.eD,ex];rfl
   have WS:σ.er.ev y.er=.one (.c (.int Z2 b)):=by rw[ai.eD,ey];rfl
   split at h
   ·refine⟨_,?_,h⟩;rw[ai.ew];simp only[dt.er,exec,WC,WS,if_true];by_cases R:LT.lt (α:=Int) a b
    ·exact(ak R).trans (congrArg (fun q:Int=>some (σ.er.put d (ao.one (.c (.int kd q))))) (ak R:sx a b=b).symm)
    ·exact(aq R).trans (congrArg (fun q:Int=>some (σ.er.put d (ao.one (.c (.int kd q))))) (aq R:sx a b=a).symm)
   ·refine⟨_,?_,h⟩;rw[ai.ew];simp only[dt.er,exec,WC,WS,zaf,if_false];by_cases R:LT.lt (α:=Int) b a
    ·exact(ak R).trans (congrArg (fun q:Int=>some (σ.er.put d (ao.one (.c (.int kd q))))) (ak R:oE a b=b).symm)
    ·exact(aq R).trans (congrArg (fun q:Int=>some (σ.er.put d (ao.one (.c (.int kd q))))) (aq R:oE a b=a).symm)
  ·cases h
 |call m f xs=>
  simp only[fi] at h;obtain⟨σ1,D,A⟩:=arC h;exact⟨σ1,by simp only[dt.er,exec,tq];exact D,A⟩
 |copy x y=>
  simp only[fi] at h;split at h
  ·rename_i n s lo len c B G;split at h
   ·rename_i gr m ts xs hn;have E:=(aS h).1;replace h:=(aS h).2;subst E;have ht:=(aS h).1;replace h:=(aS h).2;have C:=(bT h).1;replace h:=(bT h).2;simp only[co] at C;obtain⟨u,ys,D,A⟩:=BH h;split at A
    ·rename_i us ys;split at A
     ·rename_i N P;rw[eC] at A;obtain⟨av,M,A⟩:=A;refine⟨_,?_,A⟩;have g:σ.er.ev x.er=.one (.sl n 1 lo len):=by rw[ai.eD,B];rfl
      have fB:σ.er.ev y.er=.one c.er:=by rw[ai.eD,G];rfl
      have wJ:Ty.er (.list us) ys=Ty.er (.list ts) N:=by
       have:=Ty.ag6 P;exact this
      have W:cF σ.er.h c.er=some (.list ts.length (AT (Ty.aA ts) N)):=by
       have:cF σ.er.h c.er=some (Ty.er (.list us) ys):=D;rw[this,wJ];rfl
      obtain⟨c1,c2⟩:=V9 M;have j0:m≠ .aM:=by rintro rfl;exact absurd C.1 (by simp[Mode.own])
      simp only[dt.er,exec,g,fB,wa hn,SB.er,W];rw[ak ⟨trivial,trivial,ht,ht,j0,xg ts xs C.2,xg ts N C.2,by rw[AN];exact c1⟩];rw[ai.ew,ai.oQ];simp only[SB.er,c2,ht];rw[show AT (Ty.aA ts) (zaC (α:=Ty.DL ts) len N)=zaC len (AT (Ty.aA ts) N) from zat,show(AT (Ty.aA ts) N).length=af (α:=Ty.DL ts) N from AN _]
      rfl
     ·cases A
    ·cases A
   ·cases h
  ·cases h
 |mG t z x=>
  simp only[fi] at h;split at h
  ·rename_i n s lo len B;split at h
   ·rename_i gr m ts xs hn;have E:=(aS h).1;replace h:=(aS h).2;subst E;have C:=(bT h).1;replace h:=(bT h).2;simp only[co] at C;split at h
    ·rename_i e K;rw[eC] at h;obtain⟨av,M,h⟩:=h;refine⟨_,?_,h⟩;have g:σ.er.ev x.er=.one (.sl n 1 lo len):=by rw[ai.eD,B];rfl
     have jq:Ty.aA ts e=[t.er z]:=wV K;have V:ts.length=1:=by
      have:=congrArg zaE jq;rw[Ty.pP] at this;exact this
     have ot:Ty.e9 ts=true:=by
      have:=Ty.Bo ts e;rw[jq] at this;simp only[Am.e9,zao,zbb,zaO,Ty.y8,C.2] at this;exact this.symm
     obtain⟨c1,c2⟩:=V9 M;have j0:m≠ .aM:=by rintro rfl;exact absurd C.1 (by simp[Mode.own])
     simp only[dt.er,exec,g,wa hn,SB.er];rw[ak ⟨trivial,V,by rw[Ty.y8];exact C.2,j0,xg ts xs ot,by rw[AN];exact c1⟩];rw[ai.ew,ai.oQ];simp only[SB.er,c2,V,dn,zaH,jq];rfl
    ·cases h
   ·cases h
  ·cases h
 |nP f xs=>
  simp only[fi] at h;obtain⟨v,D,A⟩:=arw h;refine⟨_,?_,A⟩;simp only[dt.er,exec,tq];rw[D];simp only[ai.ew]
 |jo m f xs=>
  simp only[fi] at h;obtain⟨σ1,D,A⟩:=arx h;exact⟨σ1,by simp only[dt.er,exec,tq];exact D,A⟩
 |kj f xs=>
  simp only[fi] at h;obtain⟨σ1,D,A⟩:=arv h;exact⟨σ1,by simp only[dt.er,exec,tq];exact D,A⟩
 |nQ f xs=>
  simp only[fi] at h;obtain⟨v,D,A⟩:=ary h;exact⟨σ.put d v,by simp only[dt.er,exec,tq,D,ai.ew],A⟩
 |nc m f xs=>
  simp only[fi] at h;obtain⟨σ1,D,A⟩:=arB h;exact⟨σ1,by simp only[dt.er,exec,tq];exact D,A⟩
 |m9 f xs=>
  simp only[fi] at h;obtain⟨v,D,A⟩:=arA h;exact⟨σ.put d v,by simp only[dt.er,exec,tq,D,ai.ew],A⟩
structure dB where
 dst:Option Nat
 op:dt
 guard:Option (Nat×Bool)
def dB.er (o:dB):bO:=⟨o.dst,o.op.er,o.guard⟩
def ai.lit (σ:ai) (n:Nat) (b:Bool):ai:={σ with env:=aI σ.env n (.one (.v .bool b))}
theorem ai.F5 {σ:ai} {n:Nat} {b:Bool} (h:σ.env n=.one (.v .bool b)):(σ.lit n b).er=σ.er:=by have:aI σ.env n (.one (.v .bool b))=σ.env:=(by funext s;simp only[kE];split;rename_i a;subst a;exact h.symm;rfl);simp only[ai.lit,this]
def qj (T:List aw):List dB->ai->(ai->Option ρ)->Option ρ
 |[],σ,k=>k σ
 |o::os,σ,k=>match o.guard with
  |none=>fi T o.dst o.op σ fun σ1=>qj T os σ1 k
  |some (s,mC)=>match σ.env s with
   |.one (.v .bool b)=>au b
    (match mC with
     |true=>fi T o.dst o.op (σ.lit s true) fun σ1=>qj T os σ1 k
     |false=>qj T os ((σ.lit s true).put o.dst (.bH [])) k)
    (match mC with
     |true=>qj T os ((σ.lit s false).put o.dst (.bH [])) k
     |false=>fi T o.dst o.op (σ.lit s false) fun σ1=>qj T os σ1 k)
   |.bH []=>qj T os (σ.put o.dst (.bH [])) k
   |_=>none
theorem Mj {T:List aw}:∀{os:List dB} {σ:ai} {k:ai->Option ρ} {r:ρ},qj T os σ k=some r-> ∃σ1:ai,fy (cV T) (os.map dB.er) σ.er=some σ1.er/\k σ1=some r
 |[],σ,k,r,h=>⟨σ,rfl,h⟩
 |o::os,σ,k,r,h=>by obtain⟨d,op,g⟩:=o;have f:∀i:ai,i.er=σ.er->ez (cV T) (dB.er ⟨d,op,g⟩) σ.er=exec (cV T) d op.er σ.er->fi T d op i (fun σ1=>qj T os σ1 k)=some r-> ∃σ1:ai,fy (cV T) ((⟨d,op,g⟩::os).map dB.er) σ.er=some σ1.er/\k σ1=some r:=(by intro i e m a;obtain⟨σ1,t,u⟩:=aeF a;obtain⟨σ2,l,p⟩:=Mj u;rw[e] at t;exact⟨σ2,by simp only[wt,fy,m,t,l],p⟩);have n:∀i:ai,i.er=σ.er->ez (cV T) (dB.er ⟨d,op,g⟩) σ.er=some (σ.er.put d (.bH []))->qj T os (i.put d (.bH [])) k=some r-> ∃σ1:ai,fy (cV T) ((⟨d,op,g⟩::os).map dB.er) σ.er=some σ1.er/\k σ1=some r:=(by intro i e m a;obtain⟨σ2,l,p⟩:=Mj a;rw[ai.ew,e] at l;exact⟨σ2,by simp only[wt,fy,m];exact l,p⟩);cases g with|none=>exact f σ rfl rfl h|some g=>obtain⟨s,q⟩:=g;simp only[qj] at h;split at h;rename_i b a;have j:σ.er.env s=.one (.c (.bool b)):=(by show(σ.env s).er=_;rw[a];rfl);(cases hb:(b:Bool) with|true=>have e:(σ.lit s true).er=σ.er:=ai.F5 (by rw[a,hb]);rw[hb] at h;simp only[JW] at h;(cases q with|true=>exact f _ e (by simp[ez,dB.er,j,hb]) h|false=>exact n _ e (by simp[ez,dB.er,j,hb]) h)|false=>have e:(σ.lit s false).er=σ.er:=ai.F5 (by rw[a,hb]);rw[hb] at h;simp only[FK] at h;cases q with|true=>exact n _ e (by simp[ez,dB.er,j,hb]) h|false=>exact f _ e (by simp[ez,dB.er,j,hb]) h);rename_i a;have j:σ.er.env s=.bH []:=(by show(σ.env s).er=_;rw[a];rfl);exact n σ rfl (by simp[ez,dB.er,j]) h;cases h
def sO (T:List aw) (ps:List (Nat×Nat)):List dB->List (Option FP)->ai->(ai->Option ρ)->Option ρ
 |[],dH,σ,k=>eM (wX ps dH) (k σ)
 |o::os,dH,σ,k=>match o.guard with
  |none=>fi T o.dst o.op σ fun σ1=>sO T ps os (dH++[o.er.fp σ.er]) σ1 k
  |some (s,mC)=>match σ.env s with
   |.one (.v .bool b)=>au b
    (match mC with
     |true=>fi T o.dst o.op (σ.lit s true) fun σ1=>sO T ps os (dH++[o.er.fp (σ.lit s true).er]) σ1 k
     |false=>sO T ps os (dH++[o.er.fp (σ.lit s true).er]) ((σ.lit s true).put o.dst (.bH [])) k)
    (match mC with
     |true=>sO T ps os (dH++[o.er.fp (σ.lit s false).er]) ((σ.lit s false).put o.dst (.bH [])) k
     |false=>fi T o.dst o.op (σ.lit s false) fun σ1=>sO T ps os (dH++[o.er.fp (σ.lit s false).er]) σ1 k)
   |.bH []=>sO T ps os (dH++[o.er.fp σ.er]) (σ.put o.dst (.bH [])) k
   |_=>none
theorem TJ {T:List aw} {ps:List (Nat×Nat)}:∀{os:List dB} {j:List (Option FP)} {σ:ai} {k:ai->Option ρ} {r:ρ},sO T ps os j σ k=some r-> ∃(σ1:ai) (a:List (Option FP)),nq (cV T) (os.map dB.er) j σ.er=some (a,σ1.er)/\wX ps a=true/\k σ1=some r
 |[],j,σ,k,r,h=>⟨σ,j,rfl,(bT h).1,(bT h).2⟩
 |o::os,j,σ,k,r,h=>by obtain⟨d,op,g⟩:=o;have l:∀i:ai,i.er=σ.er->ez (cV T) (dB.er ⟨d,op,g⟩) σ.er=exec (cV T) d op.er σ.er->fi T d op i (fun σ1=>sO T ps os (j++[(dB.er ⟨d,op,g⟩).fp i.er]) σ1 k)=some r-> ∃(σ1:ai) (a:List (Option FP)),nq (cV T) ((⟨d,op,g⟩::os).map dB.er) j σ.er=some (a,σ1.er)/\wX ps a=true/\k σ1=some r:=(by intro i f p e;obtain⟨σ1,v,w⟩:=aeF e;obtain⟨σ2,a,n,t⟩:=TJ w;rw[f] at v n;exact⟨σ2,a,by simp only[wt,nq,p,v,n],t⟩);have q:∀i:ai,i.er=σ.er->ez (cV T) (dB.er ⟨d,op,g⟩) σ.er=some (σ.er.put d (.bH []))->sO T ps os (j++[(dB.er ⟨d,op,g⟩).fp i.er]) (i.put d (.bH [])) k=some r-> ∃(σ1:ai) (a:List (Option FP)),nq (cV T) ((⟨d,op,g⟩::os).map dB.er) j σ.er=some (a,σ1.er)/\wX ps a=true/\k σ1=some r:=(by intro i f p e;obtain⟨σ2,a,n,t⟩:=TJ e;rw[ai.ew,f] at n;exact⟨σ2,a,by simp only[wt,nq,p];exact n,t⟩);cases g with|none=>exact l σ rfl rfl h|some g=>obtain⟨s,u⟩:=g;simp only[sO] at h;split at h;rename_i b e;have m:σ.er.env s=.one (.c (.bool b)):=(by show(σ.env s).er=_;rw[e];rfl);(cases hb:(b:Bool) with|true=>have f:(σ.lit s true).er=σ.er:=ai.F5 (by rw[e,hb]);rw[hb] at h;simp only[JW] at h;(cases u with|true=>exact l _ f (by simp[ez,dB.er,m,hb]) h|false=>exact q _ f (by simp[ez,dB.er,m,hb]) h)|false=>have f:(σ.lit s false).er=σ.er:=ai.F5 (by rw[e,hb]);rw[hb] at h;simp only[FK] at h;cases u with|true=>exact q _ f (by simp[ez,dB.er,m,hb]) h|false=>exact l _ f (by simp[ez,dB.er,m,hb]) h);rename_i e;have m:σ.er.env s=.bH []:=(by show(σ.env s).er=_;rw[e];rfl);exact q σ rfl (by simp[ez,dB.er,m]) h;cases h
end
def SC.iO (n:Nat):SC->SC
 |.bz m k aD off sz len=>match zax m n with
  |true=>.bC
  |false=>.bz m k aD off sz len
 |.cX m k aD off sz i=>match zax m n with
  |true=>.bC
  |false=>.cX m k aD off sz i
 |x=>x
def SC.cut (n:Nat):SC->SC
 |.fn f dR=>.fn f (dR.map (SC.iO n))
 |.bz m k aD off sz len=>SC.iO n (.bz m k aD off sz len)
 |.cX m k aD off sz i=>SC.iO n (.cX m k aD off sz i)
 |.v t x=>.v t x
 |.nil ts=>.nil ts
 |.ptr m k sz off=>.ptr m k sz off
 |.di ts x off=>.di ts x off
 |.sl m sz lo len=>.sl m sz lo len
 |.cO ts x off j m sz len=>.cO ts x off j m sz len
 |.bC=>.bC
theorem SC.Pm (n:Nat) (c:SC):(c.iO n).er=c.er.iO n:=by cases c with|bz m k a off sz len=>simp only[SC.iO,SC.er,ah.iO];cases zax m n<;>rfl|cX m k a off sz i=>simp only[SC.iO,SC.er,ah.iO];cases zax m n<;>rfl|_=>rfl
theorem SC.xP (n:Nat) (c:SC):(c.cut n).er=c.er.cut n:=by cases c with|fn f dR=>simp only[SC.cut,SC.er,ah.cut,SC.Kh,zaq];congr 1;exact zal fun c _=>SC.Pm n c|bz m k a off sz len=>exact SC.Pm n (.bz m k a off sz len)|cX m k a off sz i=>exact SC.Pm n (.cX m k a off sz i)|_=>rfl
theorem J1 (n:Nat) (cs:List SC):(cs.map (SC.cut n)).map SC.er=(cs.map SC.er).map (ah.cut n):=by simp only[zaq];exact zal fun c _=>SC.xP n c
def SV.cut (n:Nat):SV->SV
 |.one c=>.one (c.cut n)
 |.agg cs=>.agg (cs.map (SC.cut n))
 |.bH xs=>.bH (xs.map fun x=>(x.1,x.2.map (SC.cut n)))
 |.arr ts x=>.arr ts x
 |.kZ ts x xs=>.kZ ts x (xs.map fun x=>(x.1,x.2.map (SC.cut n)))
theorem Pr (n:Nat) (l:List C):(l.map ah.c).map (ah.cut n)=l.map .c:=by rw[zaq];exact zal fun _ _=>rfl
theorem SV.xP (n:Nat) (v:SV):(v.cut n).er=v.er.cut n:=by cases v with|one c=>simp only[SV.cut,SV.er,ao.cut,SC.xP]|agg cs=>simp only[SV.cut,SV.er,ao.cut,J1]|bH xs=>simp only[SV.cut,SV.er,ao.cut,zaq];congr 1;exact zal fun x _=>by simp only[zbi];rw[J1]|arr ts x=>simp only[SV.cut,SV.er,ao.cut,Pr]|kZ ts x xs=>simp only[SV.cut,SV.er,ao.cut,wt,Pr,zaq];congr 2;exact zal fun x _=>by simp only[zbi];rw[J1]
def SB.cut (n:Nat):SB->SB
 |.box cs=>.box (cs.map (SC.cut n))
 |.row gr m ts xs=>.row gr m ts xs
 |.eP ts x=>.eP ts x
theorem SB.xP (n:Nat) (b:SB):(b.cut n).er=b.er.cut n:=by cases b with|box cs=>simp only[SB.cut,SB.er,ar.cut,J1]|row gr m ts xs=>rfl|eP ts x=>simp only[SB.cut,SB.er,ar.cut,Pr]
def ai.cut (σ:ai) (n:Nat):ai:={σ with env:=fun s=>(σ.env s).cut n,h:=fun m=>match σ.h m with|some b=>some (b.cut n)|none=>none}
theorem ai.xP (σ:ai) (n:Nat):(σ.cut n).er=σ.er.cut n:=by simp only[ai.cut,ai.er,St.cut];congr 1;funext s;exact SV.xP n (σ.env s);funext m;simp only[dO];cases σ.h m with|none=>rfl|some b=>simp only[AI,SB.xP]
section
variable {ρ:Type}
structure Fw where
 ia:Nat
 sz:Nat
 by_:Nat
 mx:cR
 ml:cR
 my:cR
 d:Nat
def Fw.er (s:Fw):uo:=⟨s.ia,s.sz,s.by_,s.mx.er,s.ml.er,s.my.er,s.d⟩
def MR (sp:Fw) (σ:ai) (k:ai->Option ρ):Option ρ:=
 match σ.ev sp.mx,σ.ev sp.ml,σ.ev sp.my with
 |.one (.ptr n kk rs off),.one (.bz n' vh pz mR _ _),.one yc=>
  cE n' n (cE pz rs (cE mR off (cE (off+1) rs (eM (!(zaw aX n)) ((mz vh kk).ae fun _=>match σ.h n with
   |some (.row true .live ts xs)=>cE ts.length rs ((cP xs kk).ae fun e=>match(Ty.fT ts e)[off]? with
    |some ⟨.list us,ls⟩=>cE us.length sp.sz (eM (Ty.e9 us) (xo σ.h yc fun t y=>match t,y with
     |.list vs,ys=>match Ty.cast (.list vs) (.list us) ys with
      |some zs=>(n3 (aE (af (α:=Ty.DL us) ls) (af (α:=Ty.DL us) zs)) sp.by_).ae fun _=>match IC ts e off ⟨.list us,eR (α:=Ty.DL us) ls zs⟩ with
       |some e'=>k ((σ.cut n).ef n (.row true .live ts (bh xs kk e')))
       |none=>none
      |none=>none
     |_,_=>none))
    |_=>none)
   |_=>none)))))
 |_,_,_=>none
theorem ark {a b:Nat} {u:Unit} (h:mz a b=some u):a=b:=by unfold mz at h;split at h;assumption;cases h
theorem arX {sp:Fw} {σ:ai} {k:ai->Option ρ} {r:ρ} (h:MR sp σ k=some r):∃σ1:ai,Ee sp.er σ.er=some σ1.er/\k σ1=some r:=by unfold MR at h;split at h;rename_i n kk rs off f c w m M S p J Q E;have d:=(aS h).1;replace h:=(aS h).2;subst d;have d:=(aS h).1;replace h:=(aS h).2;subst d;have d:=(aS h).1;replace h:=(aS h).2;subst d;have od:=(aS h).1;replace h:=(aS h).2;have x:=(bT h).1;replace h:=(bT h).2;rw[eC] at h;obtain⟨_,v,h⟩:=h;have v:=ark v;subst v;have oV:f<aX:=(by rcases za7 f aX with o|o;exact o;rw[zag o] at x;cases x);split at h;rename_i ts xs hn;have z:=(aS h).1;replace h:=(aS h).2;rw[eC] at h;obtain⟨e,i,h⟩:=h;replace i:xs[c]? =some e:=i;split at h;rename_i us b hd;have q:=(aS h).1;replace h:=(aS h).2;have A:=(bT h).1;replace h:=(bT h).2;obtain⟨t,y,I,h⟩:=BH h;split at h;rename_i vs ys;split at h;rename_i a s;rw[eC] at h;obtain⟨_,g,h⟩:=h;have g:(zaE (α:=Ty.DL us) b+zaE (α:=Ty.DL us) a)*sp.by_<=fQ:=(by unfold n3 at g;split at g;assumption;cases g);split at h;rename_i u H;refine⟨_,?_,h⟩;have K:σ.er.ev sp.er.mx=.one (.ptr f c w m):=(by show σ.er.ev sp.mx.er=_;rw[ai.eD,J];rfl);have O:σ.er.ev sp.er.ml=.one (.bz f c w m M S):=(by show σ.er.ev sp.ml.er=_;rw[ai.eD,Q];rfl);have L:σ.er.ev sp.er.my=.one p.er:=(by show σ.er.ev sp.my.er=_;rw[ai.eD,E];rfl);have R:σ.er.h f=some (.row true .live ts.length (AT (Ty.aA ts) xs)):=(by simp[ai.er,dO,hn,SB.er]);have B:(AT (Ty.aA ts) xs)[c]? =some (Ty.aA ts e):=(by rw[By,i];rfl);have oT:=J2 hd;have F:cF σ.er.h p.er=some ((Ty.list us).er a):=(by rw[<-Ty.O1 s];exact I);have G:(Ty.aA ts e)[m]? =some (.list us.length (AT (Ty.aA us) b)):=oT;have N:cF σ.er.h p.er=some (.list us.length (AT (Ty.aA us) a)):=F;simp only[Ee,K,O,L,od,oV,and_self,if_true,R,z,B,zam,G,N];have D:((AT (Ty.aA us) b).length+(AT (Ty.aA us) a).length)*sp.er.by_<=fQ:=(by rw[show(AT (Ty.aA us) b).length=zaE (α:=Ty.DL us) b from AN _,show(AT (Ty.aA us) a).length=zaE (α:=Ty.DL us) a from AN _];exact g);rw[ak ⟨q,q,xg us b A,xg us a A,D⟩];have P:=TI H;have j:(AT (Ty.aA ts) xs).getD c []=Ty.aA ts e:=(by rw[zab,B];rfl);rw[ai.oQ,ai.xP,j];simp only[SB.er];rw[show(AT (Ty.aA ts) (bh xs c u))=(AT (Ty.aA ts) xs).set c (Ty.aA ts u) from by show AT _ (xs.set c u)=_;rw[zaj],P];have l:(Ty.list us).er (eR (α:=Ty.DL us) b a)=.list us.length (AT (Ty.aA us) b++AT (Ty.aA us) a):=(by show C.list us.length (AT (Ty.aA us) (List.append (α:=Ty.DL us) b a))=_;exact congrArg (C.list us.length) zbf);rw[l,q,z];rfl;cases h;cases h;cases h;cases h;cases h;cases h
inductive Oy where
 |OS (ts:List Ty) (p:cR)
 |OT (p:cR) (s:Nat)
 |pop (x lo:cR) (s:Nat)
 |OZ (f:FuncId) (xs:List cR)
def Oy.er:Oy->UO
 |.OS ts p=>.OS ts.length p.er
 |.OT p s=>.OT p.er s
 |.pop x lo s=>.pop x.er lo.er s
 |.OZ f xs=>.OZ f (xs.map cR.er)
inductive U8 where
 |op (m:dB)
 |CV (d:Nat) (c:Oy)
def U8.er:U8->af9
 |.op m=>.op m.er
 |.CV d c=>.CV d c.er
end
inductive LT where
 |unit
 |ty (t:Ty)
 |dl (ts:List Ty)
 |nat
 |pair (a b:LT)
def LT.D:LT->Type
 |.unit=>Unit
 |.ty t=>t.D
 |.dl ts=>Ty.DL ts
 |.nat=>Nat
 |.pair a b=>a.D×b.D
def LT.EJ (a:LT):LT->LT
 |.unit=>a
 |.ty t=>.pair a (.ty t)
 |.dl ts=>.pair a (.dl ts)
 |.nat=>.pair a .nat
 |.pair x y=>.pair a (.pair x y)
def LT.sp:LT->LT->LT
 |.unit,b=>b
 |.ty t,b=>LT.EJ (.ty t) b
 |.dl ts,b=>LT.EJ (.dl ts) b
 |.nat,b=>LT.EJ .nat b
 |.pair x y,b=>LT.EJ (.pair x y) b
def LT.IM (a:LT):(b:LT)->(LT.EJ a b).D->a.D×b.D
 |.unit,x=>(x,())
 |.ty _,x=>x
 |.dl _,x=>x
 |.nat,x=>x
 |.pair _ _,x=>x
def LT.tY:(a b:LT)->(LT.sp a b).D->a.D×b.D
 |.unit,b,x=>((),x)
 |.ty t,b,x=>LT.IM (.ty t) b x
 |.dl ts,b,x=>LT.IM (.dl ts) b x
 |.nat,b,x=>LT.IM .nat b x
 |.pair x y,b,z=>LT.IM (.pair x y) b z
def LT.IL (a:LT):(b:LT)->a.D->b.D->(LT.EJ a b).D
 |.unit,x,_=>x
 |.ty _,x,y=>(x,y)
 |.dl _,x,y=>(x,y)
 |.nat,x,y=>(x,y)
 |.pair _ _,x,y=>(x,y)
def LT.EK:(a b:LT)->a.D->b.D->(LT.sp a b).D
 |.unit,b,_,y=>y
 |.ty t,b,x,y=>LT.IL (.ty t) b x y
 |.dl ts,b,x,y=>LT.IL (.dl ts) b x y
 |.nat,b,x,y=>LT.IL .nat b x y
 |.pair u v,b,x,y=>LT.IL (.pair u v) b x y
theorem LT.ar2 (a b:LT) (x:a.D) (y:b.D):LT.IM a b (LT.IL a b x y)=(x,y):=by cases b<;>rfl
theorem LT.ae3 (a b:LT) (x:a.D) (y:b.D):LT.tY a b (LT.EK a b x y)=(x,y):=by cases a with|unit=>rfl|_=>exact LT.ar2 _ b x y
section
variable {α β:Type} {ρ:Type} {L:α->LT}
def LL (L:α->LT):List α->LT
 |[]=>.unit
 |a::l=>LT.sp (L a) (LL L l)
def qp (un:(a:α)->(L a).D->β):(l:List α)->(LL L l).D->List β
 |[],_=>[]
 |a::l,x=>un a (LT.tY (L a) (LL L l) x).1::qp un l (LT.tY (L a) (LL L l) x).2
def rT (flat:(a:α)->β->((L a).D->Option ρ)->Option ρ):(l:List α)->List β->((LL L l).D->Option ρ)->Option ρ
 |[],[],k=>k ()
 |a::l,b::bs,k=>flat a b fun x=>rT flat l bs fun y=>k (LT.EK (L a) (LL L l) x y)
 |_,_,_=>none
theorem xY {flat:(a:α)->β->((L a).D->Option ρ)->Option ρ} {un:(a:α)->(L a).D->β} (d:∀a b k r,flat a b k=some r->∃x,b=un a x/\k x=some r):∀{l:List α} {c:List β} {k:(LL L l).D->Option ρ} {r:ρ},rT flat l c k=some r-> ∃x,c=qp un l x/\k x=some r
 |[],[],k,r,h=>⟨(),rfl,h⟩
 |a::l,b::c,k,r,h=>by simp only[rT] at h;obtain⟨x,rfl,e⟩:=d _ _ _ _ h;obtain⟨y,rfl,f⟩:=xY d e;exact⟨LT.EK (L a) (LL L l) x y,by simp only[qp,LT.ae3],f⟩
 |[],_::_,k,r,h=>by simp[rT] at h
 |_::_,[],k,r,h=>by simp[rT] at h
end
inductive jm where
 |v (t:Ty)
 |nil (ts:List Ty)
 |Io (n off:Nat)
 |ptr (n sz off:Nat)
 |di (ts:List Ty) (off:Nat)
 |cO (ts:List Ty) (off j n sz:Nat)
 |full (n sz:Nat)
 |sl (n sz:Nat)
 |bz (n aD off sz:Nat)
 |bC
inductive fa where
 |c (s:jm)
 |fn (f:FuncId) (dR:List jm)
inductive ja where
 |one (c:fa)
 |agg (cs:List fa)
 |bH (xs:List (Bool×List fa))
inductive f8 where
 |box (cs:List fa)
 |row (gr:Bool) (m:Mode) (ts:List Ty)
 |eP (ts:List Ty)
structure kL where
 env:List (Nat×ja)
 heap:List (Nat×f8)
abbrev kL.ke (sh:kL):List Nat:=sh.env.map (·.1)
def jm.L:jm->LT
 |.v t=>.ty t
 |.nil _=>.unit
 |.Io _ _=>.unit
 |.ptr _ _ _=>.nat
 |.di ts _=>.dl ts
 |.cO ts _ _ _ _=>.dl ts
 |.full _ _=>.unit
 |.sl _ _=>.pair .nat .nat
 |.bz _ _ _ _=>.pair .nat .nat
 |.bC=>.unit
def jm.un (ln:Nat->Nat):(s:jm)->s.L.D->SC
 |.v t,x=>.v t x
 |.nil ts,_=>.nil ts
 |.Io n off,_=>.ptr n 0 0 off
 |.ptr n sz off,k=>.ptr n k sz off
 |.di ts off,x=>.di ts x off
 |.cO ts off j n sz,x=>.cO ts x off j n sz (ln n)
 |.full n sz,_=>.sl n sz 0 (ln n)
 |.sl n sz,x=>.sl n sz x.1 x.2
 |.bz n aD off sz,x=>.bz n x.1 aD off sz x.2
 |.bC,_=>.bC
section
variable {ρ:Type}
def jm.flat (ln:Nat->Nat) (s:jm) (c:SC) (k:s.L.D->Option ρ):Option ρ:=
 match s,c with
 |.v t,.v u x=>match Ty.cast u t x with
  |some y=>k y
  |none=>none
 |.nil ts,.nil us=>eM (Ty.oN us ts) (k ())
 |.Io n off,.ptr n' kk sz mR=>cE n' n (cE kk 0 (cE sz 0 (cE mR off (k ()))))
 |.ptr n sz off,.ptr n' kk aL mR=>cE n' n (cE aL sz (cE mR off (k kk)))
 |.di ts off,.di us x mR=>cE mR off (match Ty.rI us ts x with
  |some y=>k y
  |none=>none)
 |.cO ts off j n sz,.cO us x mR j' n' aL len=>cE mR off (cE j' j (cE n' n (cE aL sz ((bj 0 len (ln n)).ae fun _=>match Ty.rI us ts x with
  |some y=>k y
  |none=>none))))
 |.full n sz,.sl n' aL lo len=>cE n' n (cE aL sz ((bj lo len (ln n)).ae fun _=>k ()))
 |.sl n sz,.sl n' aL lo len=>cE n' n (cE aL sz (k (lo,len)))
 |.bz n aD off sz,.bz n' kk aq2 mR aL len=>cE n' n (cE aq2 aD (cE mR off (cE aL sz (k (kk,len)))))
 |.bC,.bC=>k ()
 |_,_=>none
theorem Ty.cast_eq {t u:Ty} {x:t.D} {y:u.D} (h:Ty.cast t u x=some y):SC.v t x=SC.v u y:=by unfold Ty.cast at h;split at h;rename_i a;have:=Ty.beq_eq a;subst this;injection h with h;rw[<-h];cases h
theorem Ty.ag3 {ts us:List Ty} {x:Ty.DL ts} {y:Ty.DL us} (h:Ty.rI ts us x=some y) (off:Nat):SC.di ts x off=SC.di us y off:=by unfold Ty.rI at h;split at h;rename_i a;have:=Ty.m8 a;subst this;injection h with h;rw[<-h];cases h
theorem Ty.ag4 {ts us:List Ty} {x:Ty.DL ts} {y:Ty.DL us} (h:Ty.rI ts us x=some y) (off j n sz len:Nat):SC.cO ts x off j n sz len=SC.cO us y off j n sz len:=by unfold Ty.rI at h;split at h;rename_i a;have:=Ty.m8 a;subst this;injection h with h;rw[<-h];cases h
theorem jm.qJ {e:Nat->Nat} (s:jm) (c:SC) (k:s.L.D->Option ρ) (r:ρ) (h:s.flat e c k=some r):∃x,c=s.un e x/\k x=some r:=by cases s with|v t=>(cases c<;>simp only[jm.flat] at h<;>first|(cases h;done)|skip);split at h;rename_i y hy;exact⟨y,Ty.cast_eq hy,h⟩;cases h|nil ts=>(cases c<;>simp only[jm.flat] at h<;>first|(cases h;done)|skip);have f:=(bT h).1;replace h:=(bT h).2;exact⟨(),by rw[Ty.m8 f];rfl,h⟩|Io n off=>(cases c<;>simp only[jm.flat] at h<;>first|(cases h;done)|skip);have a:=(aS h).1;replace h:=(aS h).2;subst a;have a:=(aS h).1;replace h:=(aS h).2;subst a;have a:=(aS h).1;replace h:=(aS h).2;subst a;have a:=(aS h).1;replace h:=(aS h).2;subst a;exact⟨(),rfl,h⟩|ptr n sz off=>(cases c<;>simp only[jm.flat] at h<;>first|(cases h;done)|skip);have a:=(aS h).1;replace h:=(aS h).2;subst a;have a:=(aS h).1;replace h:=(aS h).2;subst a;have a:=(aS h).1;replace h:=(aS h).2;subst a;exact⟨_,rfl,h⟩|di ts off=>(cases c<;>simp only[jm.flat] at h<;>first|(cases h;done)|skip);have a:=(aS h).1;replace h:=(aS h).2;subst a;split at h;rename_i y hy;exact⟨y,Ty.ag3 hy _,h⟩;cases h|cO ts off j n sz=>(cases c<;>simp only[jm.flat] at h<;>first|(cases h;done)|skip);have a:=(aS h).1;replace h:=(aS h).2;subst a;have a:=(aS h).1;replace h:=(aS h).2;subst a;have a:=(aS h).1;replace h:=(aS h).2;subst a;have a:=(aS h).1;replace h:=(aS h).2;subst a;rw[eC] at h;obtain⟨_,b,h⟩:=h;unfold bj at b;split at b;rename_i d;obtain⟨_,rfl⟩:=d;split at h;rename_i y hy;exact⟨y,Ty.ag4 hy _ _ _ _ _,h⟩;cases h;cases b|full n sz=>(cases c<;>simp only[jm.flat] at h<;>first|(cases h;done)|skip);have a:=(aS h).1;replace h:=(aS h).2;subst a;have a:=(aS h).1;replace h:=(aS h).2;subst a;rw[eC] at h;obtain⟨_,b,h⟩:=h;unfold bj at b;split at b;rename_i d;obtain⟨rfl,rfl⟩:=d;exact⟨(),rfl,h⟩;cases b|sl n sz=>(cases c<;>simp only[jm.flat] at h<;>first|(cases h;done)|skip);have a:=(aS h).1;replace h:=(aS h).2;subst a;have a:=(aS h).1;replace h:=(aS h).2;subst a;exact⟨_,rfl,h⟩|bz n aD off sz=>(cases c<;>simp only[jm.flat] at h<;>first|(cases h;done)|skip);have a:=(aS h).1;replace h:=(aS h).2;subst a;have a:=(aS h).1;replace h:=(aS h).2;subst a;have a:=(aS h).1;replace h:=(aS h).2;subst a;have a:=(aS h).1;replace h:=(aS h).2;subst a;exact⟨_,rfl,h⟩|bC=>(cases c<;>simp only[jm.flat] at h<;>first|(cases h;done)|skip);exact⟨(),rfl,h⟩
def fa.L:fa->LT
 |.c s=>s.L
 |.fn _ dR=>LL jm.L dR
def fa.un (ln:Nat->Nat):(s:fa)->s.L.D->SC
 |.c s,x=>s.un ln x
 |.fn f dR,x=>.fn f (qp (jm.un ln) dR x)
def fa.flat (ln:Nat->Nat) (s:fa) (c:SC) (k:s.L.D->Option ρ):Option ρ:=
 match s,c with
 |.c s,c=>s.flat ln c k
 |.fn f dR,.fn f' cs=>cE f' f (rT (jm.flat ln) dR cs k)
 |_,_=>none
theorem fa.qJ {d:Nat->Nat} (s:fa) (c:SC) (k:s.L.D->Option ρ) (r:ρ) (h:s.flat d c k=some r):∃x,c=s.un d x/\k x=some r:=by cases s with|c s=>exact s.qJ c k r (by cases c<;>exact h)|fn f dR=>(cases c<;>simp only[fa.flat] at h<;>first|(cases h;done)|skip);have e:=(aS h).1;replace h:=(aS h).2;subst e;obtain⟨x,g,i⟩:=xY (un:=jm.un d) (fun a b k r=>jm.qJ a b k r) h;subst g;replace h:=i;exact⟨x,rfl,h⟩
def ja.L:ja->LT
 |.one c=>c.L
 |.agg cs=>LL fa.L cs
 |.bH xs=>LL (fun x:Bool×List fa=>LL fa.L x.2) xs
def ja.un (ln:Nat->Nat):(s:ja)->s.L.D->SV
 |.one c,x=>.one (c.un ln x)
 |.agg cs,x=>.agg (qp (fa.un ln) cs x)
 |.bH xs,x=>.bH (qp (L:=fun x:Bool×List fa=>LL fa.L x.2) (fun a y=>(a.1,qp (fa.un ln) a.2 y)) xs x)
def Xd (ln:Nat->Nat) (a:Bool×List fa) (b:Bool×List SC) (k:(LL fa.L a.2).D->Option ρ):Option ρ:=
 eM (a.1==b.1) (rT (fa.flat ln) a.2 b.2 k)
def ja.flat (ln:Nat->Nat) (s:ja) (v:SV) (k:s.L.D->Option ρ):Option ρ:=
 match s,v with
 |.one c,.one v=>c.flat ln v k
 |.agg cs,.agg vs=>rT (fa.flat ln) cs vs k
 |.bH xs,.bH vs=>rT (L:=fun x:Bool×List fa=>LL fa.L x.2) (Xd ln) xs vs k
 |_,_=>none
theorem ja.qJ {e:Nat->Nat} (s:ja) (v:SV) (k:s.L.D->Option ρ) (r:ρ) (h:s.flat e v k=some r):∃x,v=s.un e x/\k x=some r:=by cases s with|one c=>(cases v<;>simp only[ja.flat] at h<;>first|(cases h;done)|skip);obtain⟨x,d,f⟩:=fa.qJ _ _ _ _ h;subst d;replace h:=f;exact⟨x,rfl,h⟩|agg cs=>(cases v<;>simp only[ja.flat] at h<;>first|(cases h;done)|skip);obtain⟨x,d,f⟩:=xY (un:=fa.un e) (fun a b k r=>fa.qJ a b k r) h;subst d;replace h:=f;exact⟨x,rfl,h⟩|bH xs=>(cases v<;>simp only[ja.flat] at h<;>first|(cases h;done)|skip);obtain⟨x,d,f⟩:=xY (L:=fun x:Bool×List fa=>LL fa.L x.2) (un:=fun a y=>(a.1,qp (fa.un e) a.2 y)) (fun a b k r h=>by unfold Xd at h;have g:=(bT h).1;replace h:=(bT h).2;obtain⟨x,i,h⟩:=xY (un:=fa.un e) (fun a b k r=>fa.qJ a b k r) h;exact⟨x,zbd (eq_of_beq g).symm i,h⟩) h;subst d;exact⟨x,rfl,f⟩
def f8.L:f8->LT
 |.box cs=>LL fa.L cs
 |.row _ _ ts=>.ty (.list ts)
 |.eP ts=>.dl ts
def f8.un (ln:Nat->Nat):(s:f8)->s.L.D->SB
 |.box cs,x=>.box (qp (fa.un ln) cs x)
 |.row gr m ts,x=>.row gr m ts x
 |.eP ts,x=>.eP ts x
def Mode.beq:Mode->Mode->Bool
 |.live,.live=>true
 |.aN,.aN=>true
 |.aM,.aM=>true
 |_,_=>false
theorem Mode.beq_eq {a b:Mode} (h:Mode.beq a b=true):a=b:=by cases a<;>cases b<;>first|rfl|cases h
def f8.flat (ln:Nat->Nat) (s:f8) (b:Option SB) (k:s.L.D->Option ρ):Option ρ:=
 match s,b with
 |.box cs,some (.box vs)=>rT (fa.flat ln) cs vs k
 |.row gr m ts,some (.row br m' us xs)=>eM (br==gr) (eM (Mode.beq m' m) (match xO us ts xs with
  |some y=>k y
  |none=>none))
 |.eP ts,some (.eP us x)=>match Ty.rI us ts x with
  |some y=>k y
  |none=>none
 |_,_=>none
theorem agp {us ts:List Ty} {x:Ty.DL us} {y:Ty.DL ts} (h:Ty.rI us ts x=some y):SB.eP us x=SB.eP ts y:=by unfold Ty.rI at h;split at h;rename_i a;have b:=Ty.m8 a;subst b;injection h with h;rw[<-h];cases h
theorem aq0 {us ts:List Ty} {xs:List (Ty.DL us)} {ys:List (Ty.DL ts)} (h:xO us ts xs=some ys) (a:Bool) (m:Mode):SB.row a m us xs=SB.row a m ts ys:=by unfold xO at h;split at h;rename_i b;have c:=Ty.m8 b;subst c;injection h with h;rw[<-h];cases h
theorem f8.qJ {c:Nat->Nat} (s:f8) (b:Option SB) (k:s.L.D->Option ρ) (r:ρ) (h:s.flat c b k=some r):∃x,b=some (s.un c x)/\k x=some r:=by cases s with|box cs=>(cases b with|none=>cases h|some b=>(cases b<;>simp only[f8.flat] at h<;>first|(cases h;done)|skip);obtain⟨x,e,g⟩:=xY (un:=fa.un c) (fun a b k r=>fa.qJ a b k r) h;subst e;replace h:=g;exact⟨x,rfl,h⟩)|row gr m ts=>(cases b with|none=>cases h|some b=>(cases b<;>simp only[f8.flat] at h<;>first|(cases h;done)|skip);have f:=(bT h).1;replace h:=(bT h).2;have d:=(bT h).1;replace h:=(bT h).2;split at h;rename_i y hy;refine⟨y,?_,h⟩;rw[eq_of_beq f,Mode.beq_eq d,aq0 hy];rfl;cases h)|eP ts=>cases b with|none=>cases h|some b=>(cases b<;>simp only[f8.flat] at h<;>first|(cases h;done)|skip);split at h;rename_i y hy;refine⟨y,?_,h⟩;rw[agp hy];rfl;cases h
end
def nk:List (Nat×SV)->Nat->SV
 |[]=>fun _=>.one .bC
 |p::l=>aI (nk l) p.1 p.2
def kO:List (Nat×Option SB)->Nat->Option SB
 |[]=>fun _=>none
 |p::l=>aI (kO l) p.1 p.2
def E9:List (Nat×f8)->Nat->Bool
 |[]=>fun _=>false
 |p::l=>aI (E9 l) p.1 true
def sK (h:Nat->Option SB) (n:Nat):Nat:=
 match h n with
 |some (.row _ _ ts xs)=>af (α:=Ty.DL ts) xs
 |_=>0
abbrev kL.eL (sh:kL):LT:=LL (fun p:Nat×ja=>p.2.L) sh.env
abbrev kL.hL (sh:kL):LT:=LL (fun p:Nat×f8=>p.2.L) sh.heap
def kL.L (sh:kL):LT:=LT.sp sh.eL sh.hL
def Nk (ln:Nat->Nat) (l:List (Nat×ja)) (x:(LL (fun p:Nat×ja=>p.2.L) l).D):List (Nat×SV):=
 qp (L:=fun p:Nat×ja=>p.2.L) (fun p y=>(p.1,p.2.un ln y)) l x
def zw (ln:Nat->Nat) (l:List (Nat×f8)) (x:(LL (fun p:Nat×f8=>p.2.L) l).D):List (Nat×Option SB):=
 qp (L:=fun p:Nat×f8=>p.2.L) (fun p y=>(p.1,some (p.2.un ln y))) l x
def sv:(l:List (Nat×f8))->(LL (fun p:Nat×f8=>p.2.L) l).D->Nat->Nat
 |[],_=>fun _=>0
 |(n,.box cs)::l,x=>aI (sv l (LT.tY _ _ x).2) n 0
 |(n,.eP ts)::l,x=>aI (sv l (LT.tY (LT.dl ts) _ x).2) n 0
 |(n,.row gr m ts)::l,x=>aI (sv l (LT.tY (LT.ty (.list ts)) _ x).2) n (af (α:=Ty.DL ts) (LT.tY (LT.ty (.list ts)) _ x).1)
theorem Lq (a:Nat->Nat):∀(l:List (Nat×f8)) (x:(LL (fun p:Nat×f8=>p.2.L) l).D),sv l x=sK (kO (zw a l x))
 |[],_=>rfl
 |(n,.box cs)::l,x=>by funext m;simp only[sv,zw,qp,kO,sK];by_cases hm:m=n;subst hm;simp only[cr];rfl;simp only[cQ _ _ _ _ hm];exact congrFun (Lq a l _) m
 |(n,.eP ts)::l,x=>by funext m;simp only[sv,zw,qp,kO,sK];by_cases hm:m=n;subst hm;simp only[cr];rfl;simp only[cQ _ _ _ _ hm];exact congrFun (Lq a l _) m
 |(n,.row gr mo ts)::l,x=>by funext m;simp only[sv,zw,qp,kO,sK];by_cases hm:m=n;subst hm;simp only[cr];rfl;simp only[cQ _ _ _ _ hm];exact congrFun (Lq a l _) m
def kL.un (sh:kL) (x:sh.L.D):ai:=
 {env:=nk (Nk (sv sh.heap (LT.tY sh.eL sh.hL x).2) sh.env (LT.tY sh.eL sh.hL x).1)
  h:=kO (zw (sv sh.heap (LT.tY sh.eL sh.hL x).2) sh.heap (LT.tY sh.eL sh.hL x).2)
  used:=fun n=>zaw aX n||E9 sh.heap n}
def rV (n:Nat):List (Nat×f8)->Bool
 |[]=>false
 |p::l=>match zax n p.1 with
  |true=>true
  |false=>rV n l
section
variable {ρ:Type}
def Xa (ln:Nat->Nat) (p:Nat×ja) (v:Nat×SV) (k:p.2.L.D->Option ρ):Option ρ:=cE v.1 p.1 (p.2.flat ln v.2 k)
def Xb (ln:Nat->Nat) (p:Nat×f8) (b:Nat×Option SB) (k:p.2.L.D->Option ρ):Option ρ:=cE b.1 p.1 (p.2.flat ln b.2 k)
def JR (σ:ai) (hp:List (Nat×f8)):List Nat->Bool
 |[]=>true
 |n::kh=>(match rV n hp with|true=>σ.used n|false=>(match σ.used n with|true=>zaw aX n|false=> !(zaw aX n))&&(σ.h n).isNone)&&JR σ hp kh
def Jz (kh:List Nat):List (Nat×f8)->Bool
 |[]=>true
 |p::l=>kh.contains p.1&&Jz kh l
def kL.flat (sh:kL) (kh:List Nat) (σ:ai) (k:sh.L.D->Option ρ):Option ρ:=
 eM (JR σ sh.heap kh&&Jz kh sh.heap)
  (rT (Xa (sK σ.h)) sh.env (sh.env.map fun p=>(p.1,σ.env p.1)) fun xe=>
   rT (Xb (sK σ.h)) sh.heap (sh.heap.map fun p=>(p.1,σ.h p.1)) fun xh=>k (LT.EK sh.eL sh.hL xe xh))
end
theorem ahP (l:List (Nat×ja)) (f:Nat->SV) (b:∀s,s∉l.map (·.1)->f s=.one .bC):nk (l.map fun p=>(p.1,f p.1))=f:=by
 have:∀(l:List (Nat×ja)) s,nk (l.map fun p=>(p.1,f p.1)) s=if s∈l.map (·.1) then f s else .one .bC:=by
  intro l s;induction l with
  |nil=>rfl
  |cons p l c=>
   simp only[wt,nk,kE,c,zac];by_cases h:s=p.1
   ·subst h;simp
   ·by_cases a:s∈l.map (·.1)
    ·rw[aq h,ak a,ak (Or.inr a)]
    ·rw[aq h,aq a,aq (fun e=>e.elim h a)]
 funext s;rw[this];split
 ·rfl
 ·rename_i h;exact(b s h).symm
theorem akc (l:List (Nat×f8)) (f:Nat->Option SB) (b:∀s,s∉l.map (·.1)->f s=none):kO (l.map fun p=>(p.1,f p.1))=f:=by
 have:∀(l:List (Nat×f8)) s,kO (l.map fun p=>(p.1,f p.1)) s=if s∈l.map (·.1) then f s else none:=by
  intro l s;induction l with
  |nil=>rfl
  |cons p l c=>
   simp only[wt,kO,kE,c,zac];by_cases h:s=p.1
   ·subst h;simp
   ·by_cases a:s∈l.map (·.1)
    ·rw[aq h,ak a,ak (Or.inr a)]
    ·rw[aq h,aq a,aq (fun e=>e.elim h a)]
 funext s;rw[this];split
 ·rfl
 ·rename_i h;exact(b s h).symm
theorem YB (n:Nat) (l:List (Nat×f8)):rV n l=true↔n∈l.map (·.1):=by induction l with|nil=>simp[rV]|cons p l a=>simp only[rV,wt,zac];cases h:zax n p.1 with|true=>simp[IN h]|false=>simp only[a];constructor;exact .inr;rintro(rfl|b);rw[zan] at h;cases h;exact b
theorem asL (n:Nat) (l:List (Nat×f8)):E9 l n=rV n l:=by induction l with|nil=>rfl|cons p l a=>simp only[E9,rV,kE,a];by_cases h:n=p.1;subst h;simp[zan];have:zax n p.1=false:=(by cases hb:zax n p.1 with|true=>exact absurd (IN hb) h|false=>rfl);simp[h,this]
theorem Pa {σ:ai} {b:List (Nat×f8)}:∀{c:List Nat},JR σ b c=true->∀n∈c,σ.used n=(zaw aX n||rV n b)/\(rV n b=false->σ.h n=none)
 |[],_,n,hn=>by cases hn
 |m::c,h,n,hn=>by simp only[JR,co] at h;rcases zac.1 hn with d|hn;subst d;(cases hh:rV n b with|true=>rw[hh] at h;have a:σ.used n=true:=h.1;exact⟨by rw[a,Bool.or_true],fun e=>by cases e⟩|false=>rw[hh] at h;simp only[co,Option.isNone_iff_eq_none] at h;refine⟨?_,fun _=>h.1.2⟩;have a:=h.1.1;rw[zbj];cases hu:σ.used n with|true=>rw[hu] at a;exact a.symm|false=>rw[hu] at a;simpa using a.symm);exact Pa h.2 n hn
theorem Vj {a:List Nat}:∀{l:List (Nat×f8)},Jz a l=true->∀n∈l.map (·.1),n∈a
 |[],_,n,hn=>by cases hn
 |p::l,h,n,hn=>by simp only[Jz,co] at h;simp only[wt,zac] at hn;rcases hn with rfl|hn;simpa using h.1;exact Vj h.2 n hn
theorem kL.qJ {ρ:Type} {c:kL} {i:List Nat} {σ:ai} {k:c.L.D->Option ρ} {r:ρ} (h:c.flat i σ k=some r) (u:∀s,s∉c.ke->σ.env s=.one .bC) (q:∀n,n∉i->σ.h n=none/\σ.used n=zaw aX n):∃x,σ=c.un x/\k x=some r:=by unfold kL.flat at h;have f:=(bT h).1;replace h:=(bT h).2;simp only[co] at f;obtain⟨g,w,h⟩:=xY (L:=fun p:Nat×ja=>p.2.L) (un:=fun p y=>(p.1,p.2.un (sK σ.h) y)) (fun a b k r h=>by unfold Xa at h;obtain⟨l,h⟩:=aS h;obtain⟨x,m,h⟩:=ja.qJ _ _ _ _ h;exact⟨x,zbd l m,h⟩) h;obtain⟨d,z,h⟩:=xY (L:=fun p:Nat×f8=>p.2.L) (un:=fun p y=>(p.1,some (p.2.un (sK σ.h) y))) (fun a b k r h=>by unfold Xb at h;obtain⟨l,h⟩:=aS h;obtain⟨x,m,h⟩:=f8.qJ _ _ _ _ h;exact⟨x,zbd l m,h⟩) h;have v:σ.env=nk (Nk (sK σ.h) c.env g):=(by unfold Nk;rw[<-w];exact(ahP c.env σ.env u).symm);have t:σ.h=kO (zw (sK σ.h) c.heap d):=(by unfold zw;rw[<-z];refine(akc c.heap σ.h fun n hn=>?_).symm;by_cases e:n∈i;refine(Pa f.1 n e).2 ?_;(cases hb:rV n c.heap with|true=>exact absurd ((YB n c.heap).1 hb) hn|false=>rfl);exact(q n e).1);have j:sv c.heap d=sK σ.h:=(by rw[Lq (sK σ.h),<-t]);have o:σ.used=fun n=>zaw aX n||E9 c.heap n:=(by funext n;rw[asL];by_cases e:n∈i;exact(Pa f.1 n e).1;rw[(q n e).2];cases hb:rV n c.heap with|true=>exact absurd (Vj f.2 n ((YB n c.heap).1 hb)) e|false=>rw[zbj]);refine⟨LT.EK c.eL c.hL g d,?_,h⟩;have:c.un (LT.EK c.eL c.hL g d)={env:=nk (Nk (sv c.heap d) c.env g),h:=kO (zw (sv c.heap d) c.heap d),used:=fun n=>zaw aX n||E9 c.heap n}:=(by simp only[kL.un,LT.ae3]);rw[this,j,<-v,<-t,<-o]
end Go.Am
