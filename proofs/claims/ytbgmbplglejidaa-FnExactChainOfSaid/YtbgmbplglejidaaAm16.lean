/- Am16: results of calls come in; calls. No condition. -/
import Derived.Test.YtbgmbplglejidaaAm15
set_option linter.unusedVariables false
namespace Go.Am
section
variable {B:Nat} {E:Ex} {w0 w w':World} {G G':Gh} {h h':Nat->Option aq} {used used':Nat->Bool} {tk:List PC} {N:Nat}
variable {P:Program} {o:Oper} {a:Act} {σ σ':St} {Q:Exit->Act->World->Prop}
theorem HR.aiN (H:HR B E w G h used []) {n sz cap:Nat} {x:Option Addr} {xs:List (List PC)} {m:Mode} (hg:Good w (.list sz x cap xs)) (hs:Sep (.list sz x cap xs)) (ht:CS w (.list sz x cap xs))
  (hl:∀b,iR b (.list sz x cap xs)->oC G h b/\dD w b/\B<=b) (hn:used n=false):
  ∃G',HR B E w G' (ax h n (some (.row true m sz (xs.map fun e=>e.map PC.er)))) (ax used n true) []/\
   aZ w G h (fun n=>used n=true) w G' (ax h n (some (.row true m sz (xs.map fun e=>e.map PC.er))))/\
   RC w G' (ax h n (some (.row true m sz (xs.map fun e=>e.map PC.er)))) (.sl n sz 0 xs.length) (PC.val (.list sz x cap xs))/\
   ∀b,oC G h b->¬iR b (.list sz x cap xs)->oC G' (ax h n (some (.row true m sz (xs.map fun e=>e.map PC.er)))) b:=by
 obtain⟨ed,jk,uE⟩:=ht
 have hF:∀b,aX b xs->aT b (.list sz x cap xs):=fun b ⟨k,j,c,h1,h2⟩=>.there _ _ _ _ k j c h1 h2
 have kf:ig xs:=by cases hs with|list _ _ _ _ h1 h2 h3=>exact⟨h1,h3⟩
 let S:Nat->Prop:=fun b=>m≠ .live/\aX b xs
 have H1:HR B E w ⟨fun b=>G.Im b\/S b,G.g⟩ h used []:=H.qq S (fun b hb=>(hl b (.inl (hF b hb.2))).2.1.lt)
  (fun b hb q hq jp he=>(hl b (.inl (hF b hb.2))).1.2.1 q hq jp he.symm) (fun b hb q gr sz xs hq=>(hl b (.inl (hF b hb.2))).1.2.2 q gr _ sz xs hq) (fun b hb=>.inl (hl b (.inl (hF b hb.2))).2.2)
 obtain⟨p,aii,fB,D3,Po,aij,aif⟩:∃p:PB,(p.nl=true->xs=[]/\(true=true->p.cap=0))/\p.px=xs/\
   (p.nl=false->oC ⟨fun b=>G.Im b\/S b,G.g⟩ h p.b/\dD w p.b/\B<=p.b/\∀b,aX b xs->b≠p.b)/\
   (p.nl=false->oD w p.b p.o sz xs/\xs.length<=p.cap/\F8 w p sz)/\jg p sz 0 xs.length (PC.val (.list sz x cap xs))/\(p.nl=false->iR p.b (.list sz x cap xs)):=by
  by_cases ON:cap=0
  ·subst ON
   have hx:xs=[]:=List.eq_nil_of_length_eq_zero (by omega)
   subst hx
   exact⟨⟨true,0,0,0,[],x⟩,fun _=>⟨rfl,fun _=>rfl⟩,rfl,(fun hf=>by cases hf),(fun hf=>by cases hf),.inl ⟨rfl,rfl,rfl,rfl⟩,(fun hf=>by cases hf)⟩
  ·obtain⟨b,o,cur,e,rfl,hh,bF,yy,bS⟩:=uE.resolve_left ON
   have hT:iR b (.list sz (some (ad b o)) cap xs):=.inr ⟨_,_,_,_,rfl,ON⟩
   obtain⟨l1,l2,l3⟩:=hl b hT
   have aE:∀b',aX b' xs->b'≠b:=fun b' ⟨k,j,c,h1,h2⟩ he=>bS k j c h1 (he▸h2)
   refine⟨⟨false,b,o,cap,xs,none⟩,(fun hf=>by cases hf),rfl,fun _=>⟨⟨fun hi=>hi.elim l1.1 (fun hS=>aE b hS.2 rfl),l1.2⟩,l2,l3,aE⟩,fun _=>⟨?_,jk,yy,cur,e,hh,bF⟩,.inr ⟨rfl,some (ad b o),by simp[PC.val],by simpa using jk,fun _=>by simp⟩,fun _=>hT⟩
   cases hg with
   |nil _ _ _ _=>exact⟨by simp,by rintro k j c ⟨e,he,_⟩;simp at he,by rintro k j c ⟨e,he,_⟩;simp at he⟩
   |cons _ _ _ _ _ h1 h2 h3 h4 h5 h6=>exact⟨h4,h5,h6⟩
 subst fB
 have eS:tJ B E w ⟨fun b=>G.Im b\/S b,G.g⟩ true m sz (p.px.map fun e=>e.map PC.er) p:=by
  refine⟨ed,rfl,aii,fun hf=>⟨(D3 hf).2.1,(Po hf).1,(Po hf).2.1⟩,fun hf _=>(Po hf).2.2,?_⟩
  cases hm:m with
  |aO=>exact fun b hb=>.inr ⟨by simp[hm],hb⟩
  |ab=>exact⟨fun b hb=>⟨.inr ⟨by simp[hm],hb⟩,(hl b (.inl (hF b hb))).2.1,.inl (hl b (.inl (hF b hb))).2.2⟩,kf⟩
  |live=>exact⟨fun b hb=>⟨fun hi=>hi.elim (hl b (.inl (hF b hb))).1.1 (fun hS=>hS.1 hm),(hl b (.inl (hF b hb))).2.1,.inl (hl b (.inl (hF b hb))).2.2⟩,kf⟩
 have Hn:=H1.insert (w':=w) (n:=n) (blk:=.row true m sz (p.px.map fun e=>e.map PC.er)) (p:=p) hn (fun _ _=>rfl) (Nat.le_refl _)
  (fun hf=>⟨(D3 hf).1,.inl (D3 hf).2.2.1,(D3 hf).2.1.lt⟩) (fun cs c q hb=>by cases hb) (by exact eS)
  (fun gr m' aL ar hb hm n' bj mR jZ ic h0 iV b cB=>(hl b (.inl (hF b cB))).1.2.2 n' bj mR jZ ic h0)
  (fun gr aL ar hb b cB=>⟨fun hf=>(D3 hf).2.2.2 b cB,fun n' h0 kF he=>(hl b (.inl (hF b cB))).1.2.1 n' h0 kF he.symm⟩)
  (fun gr m' aL ar hb hm i pc b hi=>by simp at hi)
 refine⟨_,Hn,aZ.trans (u2:=fun n=>used n=true) (fun _ h=>h) (aZ.qq S _) (aZ.insert H1 hn (fun _ _=>rfl)),fun _=>by simpa[bE] using aij,fun b hb OG=>?_⟩
 refine⟨fun hi=>hi.elim hb.1 (fun hS=>OG (.inl (hF b hS.2))),fun q hq jp he=>?_,fun q gr mo aL ar hq cB=>?_⟩
 ·by_cases fw:q=n
  ·subst fw
   simp only[bE] at jp he
   exact OG (he▸aif jp)
  ·rw[cb _ _ _ _ fw] at hq
   simp only[cb _ _ _ _ fw] at jp he
   exact hb.2.1 q hq jp he
 ·by_cases fw:q=n
  ·subst fw
   simp only[bE] at cB
   exact OG (.inl (hF b cB))
  ·rw[cb _ _ _ _ fw] at hq
   simp only[cb _ _ _ _ fw] at cB
   exact hb.2.2 q gr mo aL ar hq cB
structure tF (B:Nat) (w:World) (G:Gh) (h:Nat->Option aq) (ps:List PC):Prop where
 dH:∀pc∈ps,Good w pc/\Sep pc/\CS w pc
 lone:∀pc∈ps,∀b,iR b pc->oC G h b/\dD w b/\B<=b
 m4:ps.Pairwise fun p q=>∀b,iR b p->¬iR b q
theorem tF.tail {p:PC} {ps:List PC} (hi:tF B w G h (p::ps)) (hL:∀b,oC G h b->¬iR b p->oC G' h' b):tF B w G' h' ps:=
 ⟨fun q hq=>hi.dH q (by simp[hq]),fun q hq b hb=>⟨hL b (hi.lone q (by simp[hq]) b hb).1 (fun hp=>(List.pairwise_cons.1 hi.m4).1 q hq b hp hb),(hi.lone q (by simp[hq]) b hb).2⟩,(List.pairwise_cons.1 hi.m4).2⟩
theorem HR.imp {m:Mode}:∀{ps qs:List PC} {σ σ1:St} {G:Gh} {nm fc:Nat} {l:List ah},HR B E w G σ.h σ.used []->σ.imp m nm (ps.map PC.er)=some (l,fc,σ1)->tF B w G σ.h (ps++qs)->
  ∃G',HR B E w G' σ1.h σ1.used []/\aZ w G σ.h (fun n=>σ.used n=true) w G' σ1.h/\cJ w G' σ1.h l (ps.map PC.val)/\(∀c∈l,∀q,c.ref q->σ1.used q=true)/\σ1.env=σ.env/\
   (∀q,σ.used q=true->σ1.used q=true)/\tF B w G' σ1.h qs
 |[],qs,σ,σ1,G,nm,fc,l,H,hx,hi=>by
  simp only[List.map_nil,St.imp] at hx
  injection hx with hx
  injection hx with h1 h2
  injection h2 with h2 h3
  subst h1 h3
  exact⟨G,H,aZ.refl _ _ _ _,⟨rfl,by simp⟩,by simp,rfl,fun _ h=>h,by simpa using hi⟩
 |p::ps,qs,σ,σ2,G,nm,fc,l,H,hx,hi=>by
  have eF:∀(x:C) (hx:(match σ.imp m nm (ps.map PC.er) with|some (l,fc,σ2)=>some (ah.c x::l,fc,σ2)|none=>none)=some (l,fc,σ2)) (hp:p.er=x) (bS:∀b,¬iR b p) (hg:Good w p),
    ∃G',HR B E w G' σ2.h σ2.used []/\aZ w G σ.h (fun n=>σ.used n=true) w G' σ2.h/\cJ w G' σ2.h l ((p::ps).map PC.val)/\(∀c∈l,∀q,c.ref q->σ2.used q=true)/\σ2.env=σ.env/\
     (∀q,σ.used q=true->σ2.used q=true)/\tF B w G' σ2.h qs:=by
   intro x hx hp bS hg
   split at hx
   ·rename_i l' EC gD e1
    injection hx with hx
    injection hx with h1 h2
    injection h2 with h2 h3
    subst h1 h2 h3
    obtain⟨G',b1,b2,b3,b4,b5,b6,b7⟩:=HR.imp H e1 (hi.tail (fun b hb _=>hb))
    refine⟨G',b1,b2,⟨by simp[b3.1],fun j c u hj hu=>?_⟩,fun c hc q hq=>?_,b5,b6,b7⟩
    ·cases j with
     |zero=>
      simp at hj hu;subst hj;subst hu
      exact⟨PC.kv p,p,hp,rfl,hg,fun b hb=>absurd (.inl hb) (bS b)⟩
     |succ j=>exact b3.2 j c u (by simpa using hj) (by simpa using hu)
    ·cases hc with
     |head=>exact absurd hq id
     |tail _ hc=>exact b4 c hc q hq
   ·cases hx
  cases p with
  |int k n=>exact eF (.int k n) (by simp only[List.map_cons,St.imp,PC.er] at hx;exact hx) (by simp[PC.er]) (fun b hb=>by rcases hb with hb|⟨_,_,_,_,hb,_⟩<;>cases hb) (.int _ _)
  |bool b=>exact eF (.bool b) (by simp only[List.map_cons,St.imp,PC.er] at hx;exact hx) (by simp[PC.er]) (fun b hb=>by rcases hb with hb|⟨_,_,_,_,hb,_⟩<;>cases hb) (.bool _)
  |list sz x cap xs=>
   simp only[List.map_cons,PC.dG,St.imp] at hx
   split at hx
   ·rename_i σ1 e1
    split at hx
    ·rename_i l' EC gD e2
     injection hx with hx
     injection hx with h1 h2
     injection h2 with h2 h3
     subst h1 h2 h3
     obtain⟨hn,rfl⟩:=lP e1
     obtain⟨g1,g2,g3⟩:=hi.dH (.list sz x cap xs) (by simp)
     obtain⟨G1,a1,a2,a3,a4⟩:=H.aiN (m:=m) g1 g2 g3 (hi.lone (.list sz x cap xs) (by simp)) hn
     obtain⟨G',b1,b2,b3,b4,b5,b6,b7⟩:=HR.imp a1 e2 (hi.tail a4)
     have Bc:∀q,σ.used q=true->ax σ.used nm true q=true:=fun q hq=>qT _ _ hq
     refine⟨G',b1,aZ.trans Bc a2 b2,⟨by simp[b3.1],fun j c u hj hu=>?_⟩,fun c hc q hq=>?_,b5,fun q hq=>b6 q (Bc q hq),b7⟩
     ·cases j with
      |zero=>
       simp at hj hu;subst hj;subst hu
       exact⟨rfl,a3.eV b2 fun q hq=>by have ez:q=nm:=hq;subst ez;exact bE _ _ _⟩
      |succ j=>exact b3.2 j c u (by simpa using hj) (by simpa using hu)
     ·cases hc with
      |head=>have ez:q=nm:=hq;subst ez;exact b6 _ (bE _ _ _)
      |tail _ hc=>exact b4 c hc q hq
    ·cases hx
   ·cases hx
theorem HR.jt {m:Mode}:∀{aV:List (K×List PC)} {σ σ1:St} {G:Gh} {nm:Nat} {ls:List (Bool×List ah)},HR B E w G σ.h σ.used []->σ.jt m nm (aV.map fun p=>(p.1,p.2.map PC.er))=some (ls,σ1)->
  (∀p∈aV,p.1≠ .ptr/\(p.1=.one->p.2.length=1))->tF B w G σ.h (aV.flatMap (·.2))->
  ∃G',HR B E w G' σ1.h σ1.used []/\aZ w G σ.h (fun n=>σ.used n=true) w G' σ1.h/\ls.length=aV.length/\
   (∀(j:Nat) (x:Bool×List ah) (p:K×List PC),ls[j]? =some x->aV[j]? =some p->RV w G' σ1.h x.1 x.2 (qK p))/\(∀x∈ls,∀c∈x.2,∀q,c.ref q->σ1.used q=true)/\σ1.env=σ.env/\
   (∀q,σ.used q=true->σ1.used q=true)
 |[],σ,σ1,G,nm,ls,H,hx,hk,hi=>by
  simp only[List.map_nil,St.jt] at hx
  injection hx with hx
  injection hx with h1 h2
  subst h1 h2
  exact⟨G,H,aZ.refl _ _ _ _,rfl,by simp,by simp,rfl,fun _ h=>h⟩
 |(k,ps)::aV,σ,σ2,G,nm,ls,H,hx,hk,hi=>by
  have AZ:=hk (k,ps) (by simp)
  have fm:(match σ.imp m nm (ps.map PC.er) with
   |some (l,fc,σ1)=>match σ1.jt m fc (aV.map fun p=>(p.1,p.2.map PC.er)) with
    |some (ls,σ2)=>some ((decide (k=.agg),l)::ls,σ2)
    |none=>none
   |none=>none)=some (ls,σ2):=by
   cases k with
   |ptr=>exact absurd rfl AZ.1
   |one=>simp[St.jt] at hx;exact hx
   |agg=>simp[St.jt] at hx;exact hx
  clear hx
  split at fm
  ·rename_i l fc σ1 e1
   split at fm
   ·rename_i y4 gD e2
    injection fm with hx
    injection hx with h1 h2
    subst h1 h2
    obtain⟨G1,a1,a2,a3,a4,a5,a6,a7⟩:=HR.imp H e1 (by simpa using hi)
    obtain⟨G',b1,b2,b3,b4,b5,b6,b7⟩:=HR.jt a1 e2 (fun p hp=>hk p (by simp[hp])) a7
    refine⟨G',b1,aZ.trans a6 a2 b2,by simp[b3],fun j x p hj hp=>?_,fun x hx c hc q hq=>?_,b6.trans a5,fun q hq=>b7 q (a6 q hq)⟩
    ·cases j with
     |zero=>
      simp at hj hp;subst hj;subst hp
      have bG:=cJ.eV b2 (fun c hc q hq=>a4 c hc q hq) a3
      cases k with
      |ptr=>exact absurd rfl AZ.1
      |agg=>exact⟨ps.map PC.val,rfl,bG⟩
      |one=>
       have h1:=AZ.2 rfl
       match ps,h1 with
       |[p],_=>exact bG
     |succ j=>exact b4 j x p (by simpa using hj) (by simpa using hp)
    ·cases hx with
     |head=>exact b7 q (a4 c hc q hq)
     |tail _ hx=>exact b5 x hx c hc q hq
   ·cases fm
  ·cases fm
theorem RA.kQ {ls:List (Bool×List ah)} {aV:List (K×List PC)} (hlen:ls.length=aV.length) (hk:∀p∈aV,p.1≠ .ptr/\(p.1=.one->p.2.length=1))
  (hv:∀(j:Nat) (x:Bool×List ah) (p:K×List PC),ls[j]? =some x->aV[j]? =some p->RV w G h x.1 x.2 (qK p)):RA w G h (kQ ls) (xd aV):=by
 match ls,aV,hlen with
 |[],[],_=>exact⟨[],rfl,rfl,by simp⟩
 |[(ag,cs)],[p],_=>
  have h0:=hv 0 (ag,cs) p rfl rfl
  cases ag with
  |true=>exact h0
  |false=>
   have bG:cJ w G h cs [qK p]:=h0
   match cs,bG.1 with
   |[c],_=>exact .inr h0
 |x::y::ls,p::q::aV,hl=>
  refine⟨(p::q::aV).map qK,rfl,by simpa using hl.symm,fun j x' u hj hu=>?_⟩
  rw[List.getElem?_map] at hu
  cases hp:(p::q::aV)[j]? with
  |none=>rw[hp] at hu;cases hu
  |some p'=>rw[hp] at hu;simp at hu;subst hu;exact hv j x' p' hj hp
def xT (P:Program) (T:aS):Prop:=∀f M,aS.find T.pure f=some M->bV P f M
def bi (P:Program) (f:FuncId):Bool:=
 match P.funcs[f]? with
 |some fn=>fn.body.isSome&&(fn.name != "runtime.NumGoroutine")
 |none=>false
theorem zl {f:FuncId} (hc:bi P f=true) (args:Array Value):(callFunc f args).run P w=.ok (.enter f args) w:=by
 unfold bi at hc
 split at hc
 ·rename_i fn hf
  simp only[Bool.and_eq_true,bne_iff_ne,ne_eq] at hc
  obtain⟨h1,h2⟩:=hc
  cases hb:fn.body with
  |none=>rw[hb] at h1;cases h1
  |some c=>simp[callFunc,hf,h2,hb]
 ·cases hc
theorem Fr.call (F:Fr B E w0 w) (F':Fr w.heap.size Ex.no w w'):Fr B E w0 w':=
 F.grow (fun b hb=>F'.block b hb id) F'.size F'.os F'.tape F'.output
theorem Yx (r:R B E w0 N σ a w G) {T:aS} (hT:xT P T) {m:Mode} {f:FuncId} {as:List aj} {vals:List Value} {σ1:St} (hN:∀n,o.dst=some n->n<N)
  (bO:(execOp a.eval o).run P w=.ok (.enter f vals.toArray) w) (hl:vals.length=as.length)
  (uj:∀(j:Nat) (x:aj) (v:Value),as[j]? =some x->vals[j]? =some v->RA w G σ.h x v)
  (hx:rb T m o.dst f as σ=some σ1):o.wp P a w (Nx B E w0 N σ1) Q:=by
 unfold rb at hx
 split at hx
 ·rename_i ds m8
  split at hx
  ·rename_i M hM
   split at hx
   ·rename_i rs rC
    split at hx
    ·rename_i ls σ2 v8
     injection hx with hx
     subst hx
     have ru:=r.hr.kw m8 hl uj
     unfold Oper.wp
     rw[bO]
     refine(hT f M hM ds rs rC w vals ru).mono fun e w' ⟨aV,p1,p2,p3,p4,p5⟩=>?_
     subst p2
     have gY:∀b,b<w.heap.size->w'.heap[b]? =w.heap[b]? :=fun b hb=>p5.block b hb id
     have H':=r.hr.grow gY p5.size
     have ga:tF B w' G σ.h (aV.flatMap (·.2)):=by
      refine⟨p4.dH,fun pc aY b hb=>?_,?_⟩
      ·obtain⟨n1,n2⟩:=p4.new pc aY b hb
       refine⟨⟨fun hi=>?_,fun q hq jp he=>?_,fun q gr mo sz xs hq cB=>?_⟩,n2,Nat.le_trans r.fr.size n1⟩
       ·have:=r.hr.fL b hi;omega
       ·have:=(r.hr.own q hq jp).2.2;omega
       ·have:=r.hr.qL hq cB;omega
      ·rw[List.pairwise_iff_getElem]
       intro i j hi hj jm b hb
       exact p4.m4 i j _ _ b (by omega) (List.getElem?_eq_getElem hi) (List.getElem?_eq_getElem hj) hb
     rw[<-p1] at v8
     obtain⟨G',b1,b2,b3,b4,b5,b6,b7⟩:=HR.jt H' v8 p3 ga
     have K:aZ w G σ.h (fun n=>σ.used n=true) w' G' σ2.h:=aZ.trans (fun _ h=>h) (aZ.world (fun b hb=>gY b (r.hr.fL b hb)) _) b2
     have r2:R B E w0 N σ2 a w' G':=r.step b6 b7 K b1 (r.fr.call p5)
     refine⟨G',r2.put (RA.kQ b3 p3 b4) ?_ hN⟩
     intro q hq
     match ls,hq with
     |[],hq=>obtain⟨x,hx,_⟩:=hq;simp at hx
     |[(true,cs)],hq=>obtain⟨c,hc,hq⟩:=hq;exact b5 (true,cs) (by simp) c hc q hq
     |[(false,[c])],hq=>exact b5 (false,[c]) (by simp) c (by simp) q hq
     |[(false,[])],hq=>exact absurd hq id
     |[(false,_::_::_)],hq=>exact absurd hq id
     |x::y::ls,hq=>obtain⟨x',fm,c,hc,hq⟩:=hq;exact b5 x' fm c hc q hq
    ·cases hx
   ·cases hx
  ·cases hx
 ·cases hx
theorem MT:∀{aV:List (K×List PC)} {ls:List (Bool×List ah)},gj (aV.map fun p=>(p.1,p.2.map PC.er))=some ls->ls=aV.map fun p=>(decide (p.1=.agg),p.2.map fun pc=>ah.c pc.er)
 |[],ls,h=>by simp only[List.map_nil,gj] at h;injection h with h;exact h.symm
 |(k,ps)::aV,ls,h=>by
  cases k with
  |ptr=>simp[gj] at h
  |one=>
   simp only[List.map_cons,gj] at h
   split at h
   ·rename_i y4 e
    injection h with h
    rw[<-h,MT e,List.map_map]
    rfl
   ·cases h
  |agg=>
   simp only[List.map_cons,gj] at h
   split at h
   ·rename_i y4 e
    injection h with h
    rw[<-h,MT e,List.map_map]
    rfl
   ·cases h
theorem ab7 {ls:List (Bool×List ah)} {q:Nat} (bS:∀x∈ls,∀c∈x.2,¬c.ref q):¬(kQ ls).ref q:=by
 intro hq
 match ls,hq with
 |[],hq=>obtain⟨x,hx,_⟩:=hq;simp at hx
 |[(true,cs)],hq=>obtain⟨c,hc,hq⟩:=hq;exact bS (true,cs) (by simp) c hc hq
 |[(false,[c])],hq=>exact bS (false,[c]) (by simp) c (by simp) hq
 |[(false,[])],hq=>exact hq
 |[(false,_::_::_)],hq=>exact hq
 |x::y::ls,hq=>obtain⟨x',fm,c,hc,hq⟩:=hq;exact bS x' fm c hc hq
theorem afN (r:R B E w0 N σ a w G) {T:aS} (hT:xT P T) {f:FuncId} {as:List aj} {vals:List Value} {z:aj} (hN:∀n,o.dst=some n->n<N)
  (bO:(execOp a.eval o).run P w=.ok (.enter f vals.toArray) w) (hl:vals.length=as.length)
  (uj:∀(j:Nat) (x:aj) (v:Value),as[j]? =some x->vals[j]? =some v->RA w G σ.h x v)
  (hx:tQ T f as σ.h=some z):o.wp P a w (Nx B E w0 N (σ.put o.dst z)) Q:=by
 unfold tQ at hx
 split at hx
 ·rename_i ds m8
  split at hx
  ·rename_i M hM
   split at hx
   ·rename_i rs rC
    split at hx
    ·rename_i ls v8
     injection hx with hx
     subst hx
     have ru:=r.hr.kw m8 hl uj
     unfold Oper.wp
     rw[bO]
     refine(hT f M hM ds rs rC w vals ru).mono fun e w' ⟨aV,p1,p2,p3,p4,p5⟩=>?_
     subst p2
     have gY:∀b,b<w.heap.size->w'.heap[b]? =w.heap[b]? :=fun b hb=>p5.block b hb id
     have H':=r.hr.grow gY p5.size
     rw[<-p1] at v8
     have A6:=MT v8
     subst A6
     let S:Nat->Prop:=fun b=>∃pc∈aV.flatMap (·.2),aT b pc
     have hS:∀b,S b->w.heap.size<=b/\b<w'.heap.size:=fun b ⟨pc,aY,hb⟩=>by
      obtain⟨n1,n2⟩:=p4.new pc aY b (.inl hb)
      exact⟨n1,n2.lt⟩
     have H2:HR B E w' ⟨fun b=>G.Im b\/S b,G.g⟩ σ.h σ.used []:=H'.qq S (fun b hb=>(hS b hb).2) (fun b hb n hn hl he=>by have:=(hS b hb).1;have:=(r.hr.own n hn hl).2.2;omega)
      (fun b hb n gr sz xs hn hF=>by have:=(hS b hb).1;have:=r.hr.qL hn hF;omega) (fun b hb=>.inl (Nat.le_trans r.fr.size (hS b hb).1))
     have K:aZ w G σ.h (fun n=>σ.used n=true) w' ⟨fun b=>G.Im b\/S b,G.g⟩ σ.h:=aZ.trans (fun _ h=>h) (aZ.world (fun b hb=>gY b (r.hr.fL b hb)) _) (aZ.qq S _)
     have r2:R B E w0 N σ a w' ⟨fun b=>G.Im b\/S b,G.g⟩:=r.step rfl (fun _ h=>h) K H2 (r.fr.call p5)
     have bG:∀p∈aV,cJ w' ⟨fun b=>G.Im b\/S b,G.g⟩ σ.h (p.2.map fun pc=>ah.c pc.er) (p.2.map PC.val):=fun p hp=>by
      refine⟨by simp,fun j c u hj hu=>?_⟩
      rw[List.getElem?_map] at hj hu
      cases mC:p.2[j]? with
      |none=>rw[mC] at hj;cases hj
      |some pc=>
       rw[mC] at hj hu
       simp at hj hu
       subst hj hu
       have hm:pc∈aV.flatMap (·.2):=List.mem_flatMap.2 ⟨p,hp,List.mem_of_getElem? mC⟩
       exact⟨PC.kv pc,pc,rfl,rfl,(p4.dH pc hm).1,fun b hb=>.inr ⟨pc,hm,hb⟩⟩
     refine⟨_,r2.put (RA.kQ (by simp) p3 (fun j x p hj hp=>?_)) (fun q hq=>?_) hN⟩
     ·rw[List.getElem?_map,hp] at hj
      simp at hj
      subst hj
      have h1:=bG p (List.mem_of_getElem? hp)
      obtain⟨k,ps⟩:=p
      have AZ:=p3 (k,ps) (List.mem_of_getElem? hp)
      cases k with
      |ptr=>exact absurd rfl AZ.1
      |agg=>exact⟨ps.map PC.val,rfl,h1⟩
      |one=>
       have h2:=AZ.2 rfl
       match ps,h2 with
       |[p],_=>exact h1
     ·exfalso
      have bS:∀x∈aV.map (fun p=>(decide (p.1=Am.K.agg),p.2.map fun pc=>ah.c pc.er)),∀c∈x.2,¬c.ref q:=fun x hx c hc hq=>by
       obtain⟨p,_,rfl⟩:=List.mem_map.1 hx
       obtain⟨pc,_,rfl⟩:=List.mem_map.1 hc
       exact hq
      exact ab7 bS hq
    ·cases hx
   ·cases hx
  ·cases hx
 ·cases hx
def gi:List Operand->List MO->Bool
 |[],[]=>true
 |x::xs,m::ms=>bz x m&&gi xs ms
 |_,_=>false
theorem R.yb (r:R B E w0 N σ a w G):∀{xs:List Operand} {ms:List MO},gi xs ms=true->xs.length=ms.length/\
  ∀(j:Nat) (x:aj) (v:Value),(ms.map σ.ev)[j]? =some x->(xs.map a.eval)[j]? =some v->RA w G σ.h x v
 |[],[],_=>⟨rfl,by simp⟩
 |x::xs,m::ms,hc=>by
  simp only[gi,Bool.and_eq_true] at hc
  obtain⟨i1,i2⟩:=r.yb hc.2
  refine⟨by simp[i1],fun j x' v hj hv=>?_⟩
  cases j with
  |zero=>simp at hj hv;subst hj;subst hv;exact(r.ev hc.1).1
  |succ j=>exact i2 j x' v (by simpa using hj) (by simpa using hv)
 |[],_::_,hc=>by simp[gi] at hc
 |_::_,[],hc=>by simp[gi] at hc
theorem afE (r:R B E w0 N σ a w G) {T:aS} (hT:xT P T) {m:Mode} {f:FuncId} {xs:Array Operand} {ms:List MO} {ts:Array TypeId} {σ1:St} (hN:∀n,o.dst=some n->n<N)
  (ho:o.op=.call {callee:=.value (.func f),args:=xs,argTypes:=ts}) (hf:bi P f=true) (hm:gi xs.toList ms=true)
  (hx:rb T m o.dst f (ms.map σ.ev) σ=some σ1):o.wp P a w (Nx B E w0 N σ1) Q:=by
 obtain⟨e1,e2⟩:=r.yb hm
 refine Yx r hT (vals:=xs.toList.map a.eval) hN ?_ (by simpa using e1) e2 hx
 have he:(xs.toList.map a.eval).toArray=xs.map a.eval:=by apply Array.ext';simp
 rw[he]
 simp[execOp,ho,resolve,Deferred.ofValue,invoke,Act.eval,zl hf]
theorem afF (r:R B E w0 N σ a w G) {T:aS} (hT:xT P T) {f:FuncId} {xs:Array Operand} {ms:List MO} {ts:Array TypeId} {z:aj} (hN:∀n,o.dst=some n->n<N)
  (ho:o.op=.call {callee:=.value (.func f),args:=xs,argTypes:=ts}) (hf:bi P f=true) (hm:gi xs.toList ms=true)
  (hx:tQ T f (ms.map σ.ev) σ.h=some z):o.wp P a w (Nx B E w0 N (σ.put o.dst z)) Q:=by
 obtain⟨e1,e2⟩:=r.yb hm
 refine afN r hT (vals:=xs.toList.map a.eval) hN ?_ (by simpa using e1) e2 hx
 have he:(xs.toList.map a.eval).toArray=xs.map a.eval:=by apply Array.ext';simp
 rw[he]
 simp[execOp,ho,resolve,Deferred.ofValue,invoke,Act.eval,zl hf]
theorem afH (r:R B E w0 N σ a w G) {T:aS} (hT:xT P T) {m:Mode} {f:FuncId} {x:Operand} {mx:MO} {cf:List ah} {xs:Array Operand} {ms:List MO} {ts:Array TypeId} {σ1:St} (hN:∀n,o.dst=some n->n<N)
  (ho:o.op=.call {callee:=.value x,args:=xs,argTypes:=ts}) (hf:bi P f=true) (Ph:bz x mx=true) (hm:gi xs.toList ms=true) (he:σ.ev mx=.one (.fn f cf))
  (hx:rb T m o.dst f (ms.map σ.ev++cf.map .one) σ=some σ1):o.wp P a w (Nx B E w0 N σ1) Q:=by
 obtain⟨e1,e2⟩:=r.yb hm
 obtain⟨x1,x2⟩:=r.ev Ph
 rw[he] at x1
 obtain⟨vs,v1,v2,v3⟩:=(x1.fz (by simp)).1
 refine Yx r hT (vals:=xs.toList.map a.eval++vs) hN ?_ (by simp[e1,v2]) (fun j y v hj hv=>?_) hx
 ·have uq:(xs.toList.map a.eval++vs).toArray=xs.map a.eval++vs.toArray:=by apply Array.ext';simp
  rw[uq]
  simp[execOp,ho,resolve,v1,Deferred.ofValue,invoke,zl hf]
 ·have Ie:xs.size=ms.length:=by simpa using e1
  by_cases bB:j<ms.length
  ·rw[List.getElem?_append_left (by simpa using bB)] at hj
   rw[List.getElem?_append_left (by simp;omega)] at hv
   exact e2 j y v hj hv
  ·rw[List.getElem?_append_right (by simp;omega)] at hj
   rw[List.getElem?_append_right (by simp;omega)] at hv
   simp only[List.length_map,<-e1] at hj hv
   rw[List.getElem?_map] at hj
   simp only[e1] at hj hv
   cases hc:cf[j - ms.length]? with
   |none=>rw[hc] at hj;cases hj
   |some c=>
    rw[hc] at hj
    simp at hj
    subst hj
    obtain⟨q1,q2⟩:=v3 _ c v hc hv
    refine RA.fZ q1 ?_
    by_cases DM:c.kJ=false
    ·rw[xS _ _ _ _ _ DM];exact q2
    ·cases c<;>first|exact q2.elim|(simp[ah.kJ] at DM)
end
end Go.Am
