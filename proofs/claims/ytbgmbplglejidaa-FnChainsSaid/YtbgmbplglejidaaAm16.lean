/- Am16: results of calls come in; calls. No condition. -/
import Derived.Test.YtbgmbplglejidaaAm15
set_option linter.unusedVariables false
namespace Go.Am
section
variable {B:Nat} {E:Ex} {w0 w w':World} {G G':Gh} {h h':Nat->Option ao} {used used':Nat->Bool} {tk:List PC} {N:Nat}
variable {P:Program} {o:Oper} {a:Act} {σ σ':St} {Q:Exit->Act->World->Prop}
theorem HR.ahW (H:HR B E w G h used []) {n sz cap:Nat} {x:Option Addr} {xs:List (List PC)} {m:Mode} (hg:Good w (.list sz x cap xs)) (hs:Sep (.list sz x cap xs)) (ht:CR w (.list sz x cap xs))
  (hl:∀b,iT b (.list sz x cap xs)->oC G h b/\dD w b/\B<=b) (hn:used n=false):
  ∃G',HR B E w G' (au h n (some (.row true m sz (xs.map fun e=>e.map PC.er)))) (au used n true) []/\
   bc w G h (fun n=>used n=true) w G' (au h n (some (.row true m sz (xs.map fun e=>e.map PC.er))))/\
   RC w G' (au h n (some (.row true m sz (xs.map fun e=>e.map PC.er)))) (.sl n sz 0 xs.length) (PC.val (.list sz x cap xs))/\
   ∀b,oC G h b->¬iT b (.list sz x cap xs)->oC G' (au h n (some (.row true m sz (xs.map fun e=>e.map PC.er)))) b:=by
 obtain⟨dL,ju,Bh⟩:=ht
 have hF:∀b,aV b xs->aS b (.list sz x cap xs):=fun b ⟨k,j,c,h1,h2⟩=>.there _ _ _ _ k j c h1 h2
 have kc:ij xs:=by cases hs with|list _ _ _ _ h1 h2 h3=>exact⟨h1,h3⟩
 let S:Nat->Prop:=fun b=>m≠ .live/\aV b xs
 have H1:HR B E w ⟨fun b=>G.Im b\/S b,G.g⟩ h used []:=H.qp S (fun b hb=>(hl b (.inl (hF b hb.2))).2.1.lt)
  (fun b hb q hq jS he=>(hl b (.inl (hF b hb.2))).1.2.1 q hq jS he.symm) (fun b hb q gr sz xs hq=>(hl b (.inl (hF b hb.2))).1.2.2 q gr _ sz xs hq) (fun b hb=>.inl (hl b (.inl (hF b hb.2))).2.2)
 obtain⟨p,aht,fL,DZ,OH,ahu,ahr⟩:∃p:PB,(p.nl=true->xs=[]/\(true=true->p.cap=0))/\p.px=xs/\
   (p.nl=false->oC ⟨fun b=>G.Im b\/S b,G.g⟩ h p.b/\dD w p.b/\B<=p.b/\∀b,aV b xs->b≠p.b)/\
   (p.nl=false->oD w p.b p.o sz xs/\xs.length<=p.cap/\Ga w p sz)/\jq p sz 0 xs.length (PC.val (.list sz x cap xs))/\(p.nl=false->iT p.b (.list sz x cap xs)):=by
  by_cases N2:cap=0
  ·subst N2
   have hx:xs=[]:=List.eq_nil_of_length_eq_zero (by omega)
   subst hx
   exact⟨⟨true,0,0,0,[],x⟩,fun _=>⟨rfl,fun _=>rfl⟩,rfl,(fun hf=>by cases hf),(fun hf=>by cases hf),.inl ⟨rfl,rfl,rfl,rfl⟩,(fun hf=>by cases hf)⟩
  ·obtain⟨b,o,cur,e,rfl,hh,bD,yp,ca⟩:=Bh.resolve_left N2
   have hT:iT b (.list sz (some (ad b o)) cap xs):=.inr ⟨_,_,_,_,rfl,N2⟩
   obtain⟨l1,l2,l3⟩:=hl b hT
   have aB:∀b',aV b' xs->b'≠b:=fun b' ⟨k,j,c,h1,h2⟩ he=>ca k j c h1 (he▸h2)
   refine⟨⟨false,b,o,cap,xs,none⟩,(fun hf=>by cases hf),rfl,fun _=>⟨⟨fun hi=>hi.elim l1.1 (fun hS=>aB b hS.2 rfl),l1.2⟩,l2,l3,aB⟩,fun _=>⟨?_,ju,yp,cur,e,hh,bD⟩,.inr ⟨rfl,some (ad b o),by simp[PC.val],by simpa using ju,fun _=>by simp⟩,fun _=>hT⟩
   cases hg with
   |nil _ _ _ _=>exact⟨by simp,by rintro k j c ⟨e,he,_⟩;simp at he,by rintro k j c ⟨e,he,_⟩;simp at he⟩
   |cons _ _ _ _ _ h1 h2 h3 h4 h5 h6=>exact⟨h4,h5,h6⟩
 subst fL
 have fc:tC B E w ⟨fun b=>G.Im b\/S b,G.g⟩ true m sz (p.px.map fun e=>e.map PC.er) p:=by
  refine⟨dL,rfl,aht,fun hf=>⟨(DZ hf).2.1,(OH hf).1,(OH hf).2.1⟩,fun hf _=>(OH hf).2.2,?_⟩
  cases hm:m with
  |aD=>exact fun b hb=>.inr ⟨by simp[hm],hb⟩
  |ae=>exact⟨fun b hb=>⟨.inr ⟨by simp[hm],hb⟩,(hl b (.inl (hF b hb))).2.1,.inl (hl b (.inl (hF b hb))).2.2⟩,kc⟩
  |live=>exact⟨fun b hb=>⟨fun hi=>hi.elim (hl b (.inl (hF b hb))).1.1 (fun hS=>hS.1 hm),(hl b (.inl (hF b hb))).2.1,.inl (hl b (.inl (hF b hb))).2.2⟩,kc⟩
 have Hn:=H1.insert (w':=w) (n:=n) (blk:=.row true m sz (p.px.map fun e=>e.map PC.er)) (p:=p) hn (fun _ _=>rfl) (Nat.le_refl _)
  (fun hf=>⟨(DZ hf).1,.inl (DZ hf).2.2.1,(DZ hf).2.1.lt⟩) (fun cs c q hb=>by cases hb) (by exact fc)
  (fun gr m' aJ aq hb hm n' bk mS jZ ii h0 iZ b cF=>(hl b (.inl (hF b cF))).1.2.2 n' bk mS jZ ii h0)
  (fun gr aJ aq hb b cF=>⟨fun hf=>(DZ hf).2.2.2 b cF,fun n' h0 kF he=>(hl b (.inl (hF b cF))).1.2.1 n' h0 kF he.symm⟩)
  (fun gr m' aJ aq hb hm i pc b hi=>by simp at hi)
 refine⟨_,Hn,bc.trans (u2:=fun n=>used n=true) (fun _ h=>h) (bc.qp S _) (bc.insert H1 hn (fun _ _=>rfl)),fun _=>by simpa[bF] using ahu,fun b hb NW=>?_⟩
 refine⟨fun hi=>hi.elim hb.1 (fun hS=>NW (.inl (hF b hS.2))),fun q hq jS he=>?_,fun q gr mo aJ aq hq cF=>?_⟩
 ·by_cases fD:q=n
  ·subst fD
   simp only[bF] at jS he
   exact NW (he▸ahr jS)
  ·rw[cq _ _ _ _ fD] at hq
   simp only[cq _ _ _ _ fD] at jS he
   exact hb.2.1 q hq jS he
 ·by_cases fD:q=n
  ·subst fD
   simp only[bF] at cF
   exact NW (.inl (hF b cF))
  ·rw[cq _ _ _ _ fD] at hq
   simp only[cq _ _ _ _ fD] at cF
   exact hb.2.2 q gr mo aJ aq hq cF
structure tz (B:Nat) (w:World) (G:Gh) (h:Nat->Option ao) (ps:List PC):Prop where
 eu:∀pc∈ps,Good w pc/\Sep pc/\CR w pc
 lone:∀pc∈ps,∀b,iT b pc->oC G h b/\dD w b/\B<=b
 m7:ps.Pairwise fun p q=>∀b,iT b p->¬iT b q
theorem tz.tail {p:PC} {ps:List PC} (hi:tz B w G h (p::ps)) (hL:∀b,oC G h b->¬iT b p->oC G' h' b):tz B w G' h' ps:=
 ⟨fun q hq=>hi.eu q (by simp[hq]),fun q hq b hb=>⟨hL b (hi.lone q (by simp[hq]) b hb).1 (fun hp=>(List.pairwise_cons.1 hi.m7).1 q hq b hp hb),(hi.lone q (by simp[hq]) b hb).2⟩,(List.pairwise_cons.1 hi.m7).2⟩
theorem HR.imp {m:Mode}:∀{ps qs:List PC} {σ σ1:St} {G:Gh} {nm fo:Nat} {l:List ah},HR B E w G σ.h σ.used []->σ.imp m nm (ps.map PC.er)=some (l,fo,σ1)->tz B w G σ.h (ps++qs)->
  ∃G',HR B E w G' σ1.h σ1.used []/\bc w G σ.h (fun n=>σ.used n=true) w G' σ1.h/\cN w G' σ1.h l (ps.map PC.val)/\(∀c∈l,∀q,c.ref q->σ1.used q=true)/\σ1.env=σ.env/\
   (∀q,σ.used q=true->σ1.used q=true)/\tz B w G' σ1.h qs
 |[],qs,σ,σ1,G,nm,fo,l,H,hx,hi=>by
  simp only[List.map_nil,St.imp] at hx
  injection hx with hx
  injection hx with h1 h2
  injection h2 with h2 h3
  subst h1 h3
  exact⟨G,H,bc.refl _ _ _ _,⟨rfl,by simp⟩,by simp,rfl,fun _ h=>h,by simpa using hi⟩
 |p::ps,qs,σ,σ2,G,nm,fo,l,H,hx,hi=>by
  have eN:∀(x:C) (hx:(match σ.imp m nm (ps.map PC.er) with|some (l,fo,σ2)=>some (ah.c x::l,fo,σ2)|none=>none)=some (l,fo,σ2)) (hp:p.er=x) (ca:∀b,¬iT b p) (hg:Good w p),
    ∃G',HR B E w G' σ2.h σ2.used []/\bc w G σ.h (fun n=>σ.used n=true) w G' σ2.h/\cN w G' σ2.h l ((p::ps).map PC.val)/\(∀c∈l,∀q,c.ref q->σ2.used q=true)/\σ2.env=σ.env/\
     (∀q,σ.used q=true->σ2.used q=true)/\tz B w G' σ2.h qs:=by
   intro x hx hp ca hg
   split at hx
   ·rename_i l' Eu gI e1
    injection hx with hx
    injection hx with h1 h2
    injection h2 with h2 h3
    subst h1 h2 h3
    obtain⟨G',b1,b2,b3,b4,b5,b6,b7⟩:=HR.imp H e1 (hi.tail (fun b hb _=>hb))
    refine⟨G',b1,b2,⟨by simp[b3.1],fun j c u hj hu=>?_⟩,fun c hc q hq=>?_,b5,b6,b7⟩
    ·cases j with
     |zero=>
      simp at hj hu;subst hj;subst hu
      exact⟨PC.kw p,p,hp,rfl,hg,fun b hb=>absurd (.inl hb) (ca b)⟩
     |succ j=>exact b3.2 j c u (by simpa using hj) (by simpa using hu)
    ·cases hc with
     |head=>exact absurd hq id
     |tail _ hc=>exact b4 c hc q hq
   ·cases hx
  cases p with
  |int k n=>exact eN (.int k n) (by simp only[List.map_cons,St.imp,PC.er] at hx;exact hx) (by simp[PC.er]) (fun b hb=>by rcases hb with hb|⟨_,_,_,_,hb,_⟩<;>cases hb) (.int _ _)
  |bool b=>exact eN (.bool b) (by simp only[List.map_cons,St.imp,PC.er] at hx;exact hx) (by simp[PC.er]) (fun b hb=>by rcases hb with hb|⟨_,_,_,_,hb,_⟩<;>cases hb) (.bool _)
  |list sz x cap xs=>
   simp only[List.map_cons,PC.dJ,St.imp] at hx
   split at hx
   ·rename_i σ1 e1
    split at hx
    ·rename_i l' Eu gI e2
     injection hx with hx
     injection hx with h1 h2
     injection h2 with h2 h3
     subst h1 h2 h3
     obtain⟨hn,rfl⟩:=lL e1
     obtain⟨g1,g2,g3⟩:=hi.eu (.list sz x cap xs) (by simp)
     obtain⟨G1,a1,a2,a3,a4⟩:=H.ahW (m:=m) g1 g2 g3 (hi.lone (.list sz x cap xs) (by simp)) hn
     obtain⟨G',b1,b2,b3,b4,b5,b6,b7⟩:=HR.imp a1 e2 (hi.tail a4)
     have Bj:∀q,σ.used q=true->au σ.used nm true q=true:=fun q hq=>qR _ _ hq
     refine⟨G',b1,bc.trans Bj a2 b2,⟨by simp[b3.1],fun j c u hj hu=>?_⟩,fun c hc q hq=>?_,b5,fun q hq=>b6 q (Bj q hq),b7⟩
     ·cases j with
      |zero=>
       simp at hj hu;subst hj;subst hu
       exact⟨rfl,a3.fe b2 fun q hq=>by have eA:q=nm:=hq;subst eA;exact bF _ _ _⟩
      |succ j=>exact b3.2 j c u (by simpa using hj) (by simpa using hu)
     ·cases hc with
      |head=>have eA:q=nm:=hq;subst eA;exact b6 _ (bF _ _ _)
      |tail _ hc=>exact b4 c hc q hq
    ·cases hx
   ·cases hx
theorem HR.jC {m:Mode}:∀{aT:List (K×List PC)} {σ σ1:St} {G:Gh} {nm:Nat} {ls:List (Bool×List ah)},HR B E w G σ.h σ.used []->σ.jC m nm (aT.map fun p=>(p.1,p.2.map PC.er))=some (ls,σ1)->
  (∀p∈aT,p.1≠ .ptr/\(p.1=.one->p.2.length=1))->tz B w G σ.h (aT.flatMap (·.2))->
  ∃G',HR B E w G' σ1.h σ1.used []/\bc w G σ.h (fun n=>σ.used n=true) w G' σ1.h/\ls.length=aT.length/\
   (∀(j:Nat) (x:Bool×List ah) (p:K×List PC),ls[j]? =some x->aT[j]? =some p->RV w G' σ1.h x.1 x.2 (qH p))/\(∀x∈ls,∀c∈x.2,∀q,c.ref q->σ1.used q=true)/\σ1.env=σ.env/\
   (∀q,σ.used q=true->σ1.used q=true)
 |[],σ,σ1,G,nm,ls,H,hx,hk,hi=>by
  simp only[List.map_nil,St.jC] at hx
  injection hx with hx
  injection hx with h1 h2
  subst h1 h2
  exact⟨G,H,bc.refl _ _ _ _,rfl,by simp,by simp,rfl,fun _ h=>h⟩
 |(k,ps)::aT,σ,σ2,G,nm,ls,H,hx,hk,hi=>by
  have AZ:=hk (k,ps) (by simp)
  have fM:(match σ.imp m nm (ps.map PC.er) with
   |some (l,fo,σ1)=>match σ1.jC m fo (aT.map fun p=>(p.1,p.2.map PC.er)) with
    |some (ls,σ2)=>some ((decide (k=.agg),l)::ls,σ2)
    |none=>none
   |none=>none)=some (ls,σ2):=by
   cases k with
   |ptr=>exact absurd rfl AZ.1
   |one=>simp[St.jC] at hx;exact hx
   |agg=>simp[St.jC] at hx;exact hx
  clear hx
  split at fM
  ·rename_i l fo σ1 e1
   split at fM
   ·rename_i yR gI e2
    injection fM with hx
    injection hx with h1 h2
    subst h1 h2
    obtain⟨G1,a1,a2,a3,a4,a5,a6,a7⟩:=HR.imp H e1 (by simpa using hi)
    obtain⟨G',b1,b2,b3,b4,b5,b6,b7⟩:=HR.jC a1 e2 (fun p hp=>hk p (by simp[hp])) a7
    refine⟨G',b1,bc.trans a6 a2 b2,by simp[b3],fun j x p hj hp=>?_,fun x hx c hc q hq=>?_,b6.trans a5,fun q hq=>b7 q (a6 q hq)⟩
    ·cases j with
     |zero=>
      simp at hj hp;subst hj;subst hp
      have bL:=cN.fe b2 (fun c hc q hq=>a4 c hc q hq) a3
      cases k with
      |ptr=>exact absurd rfl AZ.1
      |agg=>exact⟨ps.map PC.val,rfl,bL⟩
      |one=>
       have h1:=AZ.2 rfl
       match ps,h1 with
       |[p],_=>exact bL
     |succ j=>exact b4 j x p (by simpa using hj) (by simpa using hp)
    ·cases hx with
     |head=>exact b7 q (a4 c hc q hq)
     |tail _ hx=>exact b5 x hx c hc q hq
   ·cases fM
  ·cases fM
theorem RA.kQ {ls:List (Bool×List ah)} {aT:List (K×List PC)} (hlen:ls.length=aT.length) (hk:∀p∈aT,p.1≠ .ptr/\(p.1=.one->p.2.length=1))
  (hv:∀(j:Nat) (x:Bool×List ah) (p:K×List PC),ls[j]? =some x->aT[j]? =some p->RV w G h x.1 x.2 (qH p)):RA w G h (kQ ls) (wV aT):=by
 match ls,aT,hlen with
 |[],[],_=>exact⟨[],rfl,rfl,by simp⟩
 |[(ag,cs)],[p],_=>
  have h0:=hv 0 (ag,cs) p rfl rfl
  cases ag with
  |true=>exact h0
  |false=>
   have bL:cN w G h cs [qH p]:=h0
   match cs,bL.1 with
   |[c],_=>exact .inr h0
 |x::y::ls,p::q::aT,hl=>
  refine⟨(p::q::aT).map qH,rfl,by simpa using hl.symm,fun j x' u hj hu=>?_⟩
  rw[List.getElem?_map] at hu
  cases hp:(p::q::aT)[j]? with
  |none=>rw[hp] at hu;cases hu
  |some p'=>rw[hp] at hu;simp at hu;subst hu;exact hv j x' p' hj hp
def xE (P:Program) (T:aO):Prop:=∀f M,aO.find T.pure f=some M->dh P f M
def bC (P:Program) (f:FuncId):Bool:=
 match P.funcs[f]? with
 |some fn=>fn.body.isSome&&(fn.name != "runtime.NumGoroutine")
 |none=>false
theorem zd {f:FuncId} (hc:bC P f=true) (args:Array Value):(callFunc f args).run P w=.ok (.enter f args) w:=by
 unfold bC at hc
 split at hc
 ·rename_i fn hf
  simp only[Bool.and_eq_true,bne_iff_ne,ne_eq] at hc
  obtain⟨h1,h2⟩:=hc
  cases hb:fn.body with
  |none=>rw[hb] at h1;cases h1
  |some c=>simp[callFunc,hf,h2,hb]
 ·cases hc
theorem Fr.call (F:Fr B E w0 w) (F':Fr w.heap.size Ex.no w w'):Fr B E w0 w':=
 F.grow (fun b hb=>F'.block b hb id) F'.size F'.os F'.tape F'.output
theorem Xy (r:R B E w0 N σ a w G) {T:aO} (hT:xE P T) {m:Mode} {f:FuncId} {as:List aj} {vals:List Value} {σ1:St} (hN:∀n,o.dst=some n->n<N)
  (bU:(execOp a.eval o).run P w=.ok (.enter f vals.toArray) w) (hl:vals.length=as.length)
  (tY:∀(j:Nat) (x:aj) (v:Value),as[j]? =some x->vals[j]? =some v->RA w G σ.h x v)
  (hx:rf T m o.dst f as σ=some σ1):o.wp P a w (Nx B E w0 N σ1) Q:=by
 unfold rf at hx
 split at hx
 ·rename_i ds nf
  split at hx
  ·rename_i M hM
   split at hx
   ·rename_i rs rB
    split at hx
    ·rename_i ls σ2 vW
     injection hx with hx
     subst hx
     have ru:=r.hr.kx nf hl tY
     unfold Oper.wp
     rw[bU]
     refine(hT f M hM ds rs rB w vals ru).mono fun e w' ⟨aT,p1,p2,p3,p4,p5⟩=>?_
     subst p2
     have gV:∀b,b<w.heap.size->w'.heap[b]? =w.heap[b]? :=fun b hb=>p5.block b hb id
     have H':=r.hr.grow gV p5.size
     have fx:tz B w' G σ.h (aT.flatMap (·.2)):=by
      refine⟨p4.eu,fun pc aZ b hb=>?_,?_⟩
      ·obtain⟨n1,n2⟩:=p4.new pc aZ b hb
       refine⟨⟨fun hi=>?_,fun q hq jS he=>?_,fun q gr mo sz xs hq cF=>?_⟩,n2,Nat.le_trans r.fr.size n1⟩
       ·have:=r.hr.fW b hi;omega
       ·have:=(r.hr.own q hq jS).2.2;omega
       ·have:=r.hr.qI hq cF;omega
      ·rw[List.pairwise_iff_getElem]
       intro i j hi hj jw b hb
       exact p4.m7 i j _ _ b (by omega) (List.getElem?_eq_getElem hi) (List.getElem?_eq_getElem hj) hb
     rw[<-p1] at vW
     obtain⟨G',b1,b2,b3,b4,b5,b6,b7⟩:=HR.jC H' vW p3 fx
     have K:bc w G σ.h (fun n=>σ.used n=true) w' G' σ2.h:=bc.trans (fun _ h=>h) (bc.world (fun b hb=>gV b (r.hr.fW b hb)) _) b2
     have r2:R B E w0 N σ2 a w' G':=r.step b6 b7 K b1 (r.fr.call p5)
     refine⟨G',r2.put (RA.kQ b3 p3 b4) ?_ hN⟩
     intro q hq
     match ls,hq with
     |[],hq=>obtain⟨x,hx,_⟩:=hq;simp at hx
     |[(true,cs)],hq=>obtain⟨c,hc,hq⟩:=hq;exact b5 (true,cs) (by simp) c hc q hq
     |[(false,[c])],hq=>exact b5 (false,[c]) (by simp) c (by simp) q hq
     |[(false,[])],hq=>exact absurd hq id
     |[(false,_::_::_)],hq=>exact absurd hq id
     |x::y::ls,hq=>obtain⟨x',fM,c,hc,hq⟩:=hq;exact b5 x' fM c hc q hq
    ·cases hx
   ·cases hx
  ·cases hx
 ·cases hx
theorem Mr:∀{aT:List (K×List PC)} {ls:List (Bool×List ah)},gx (aT.map fun p=>(p.1,p.2.map PC.er))=some ls->ls=aT.map fun p=>(decide (p.1=.agg),p.2.map fun pc=>ah.c pc.er)
 |[],ls,h=>by simp only[List.map_nil,gx] at h;injection h with h;exact h.symm
 |(k,ps)::aT,ls,h=>by
  cases k with
  |ptr=>simp[gx] at h
  |one=>
   simp only[List.map_cons,gx] at h
   split at h
   ·rename_i yR e
    injection h with h
    rw[<-h,Mr e,List.map_map]
    rfl
   ·cases h
  |agg=>
   simp only[List.map_cons,gx] at h
   split at h
   ·rename_i yR e
    injection h with h
    rw[<-h,Mr e,List.map_map]
    rfl
   ·cases h
theorem abm {ls:List (Bool×List ah)} {q:Nat} (ca:∀x∈ls,∀c∈x.2,¬c.ref q):¬(kQ ls).ref q:=by
 intro hq
 match ls,hq with
 |[],hq=>obtain⟨x,hx,_⟩:=hq;simp at hx
 |[(true,cs)],hq=>obtain⟨c,hc,hq⟩:=hq;exact ca (true,cs) (by simp) c hc hq
 |[(false,[c])],hq=>exact ca (false,[c]) (by simp) c (by simp) hq
 |[(false,[])],hq=>exact hq
 |[(false,_::_::_)],hq=>exact hq
 |x::y::ls,hq=>obtain⟨x',fM,c,hc,hq⟩:=hq;exact ca x' fM c hc hq
theorem ae8 (r:R B E w0 N σ a w G) {T:aO} (hT:xE P T) {f:FuncId} {as:List aj} {vals:List Value} {z:aj} (hN:∀n,o.dst=some n->n<N)
  (bU:(execOp a.eval o).run P w=.ok (.enter f vals.toArray) w) (hl:vals.length=as.length)
  (tY:∀(j:Nat) (x:aj) (v:Value),as[j]? =some x->vals[j]? =some v->RA w G σ.h x v)
  (hx:tF T f as σ.h=some z):o.wp P a w (Nx B E w0 N (σ.put o.dst z)) Q:=by
 unfold tF at hx
 split at hx
 ·rename_i ds nf
  split at hx
  ·rename_i M hM
   split at hx
   ·rename_i rs rB
    split at hx
    ·rename_i ls vW
     injection hx with hx
     subst hx
     have ru:=r.hr.kx nf hl tY
     unfold Oper.wp
     rw[bU]
     refine(hT f M hM ds rs rB w vals ru).mono fun e w' ⟨aT,p1,p2,p3,p4,p5⟩=>?_
     subst p2
     have gV:∀b,b<w.heap.size->w'.heap[b]? =w.heap[b]? :=fun b hb=>p5.block b hb id
     have H':=r.hr.grow gV p5.size
     rw[<-p1] at vW
     have A6:=Mr vW
     subst A6
     let S:Nat->Prop:=fun b=>∃pc∈aT.flatMap (·.2),aS b pc
     have hS:∀b,S b->w.heap.size<=b/\b<w'.heap.size:=fun b ⟨pc,aZ,hb⟩=>by
      obtain⟨n1,n2⟩:=p4.new pc aZ b (.inl hb)
      exact⟨n1,n2.lt⟩
     have H2:HR B E w' ⟨fun b=>G.Im b\/S b,G.g⟩ σ.h σ.used []:=H'.qp S (fun b hb=>(hS b hb).2) (fun b hb n hn hl he=>by have:=(hS b hb).1;have:=(r.hr.own n hn hl).2.2;omega)
      (fun b hb n gr sz xs hn hF=>by have:=(hS b hb).1;have:=r.hr.qI hn hF;omega) (fun b hb=>.inl (Nat.le_trans r.fr.size (hS b hb).1))
     have K:bc w G σ.h (fun n=>σ.used n=true) w' ⟨fun b=>G.Im b\/S b,G.g⟩ σ.h:=bc.trans (fun _ h=>h) (bc.world (fun b hb=>gV b (r.hr.fW b hb)) _) (bc.qp S _)
     have r2:R B E w0 N σ a w' ⟨fun b=>G.Im b\/S b,G.g⟩:=r.step rfl (fun _ h=>h) K H2 (r.fr.call p5)
     have bL:∀p∈aT,cN w' ⟨fun b=>G.Im b\/S b,G.g⟩ σ.h (p.2.map fun pc=>ah.c pc.er) (p.2.map PC.val):=fun p hp=>by
      refine⟨by simp,fun j c u hj hu=>?_⟩
      rw[List.getElem?_map] at hj hu
      cases mF:p.2[j]? with
      |none=>rw[mF] at hj;cases hj
      |some pc=>
       rw[mF] at hj hu
       simp at hj hu
       subst hj hu
       have hm:pc∈aT.flatMap (·.2):=List.mem_flatMap.2 ⟨p,hp,List.mem_of_getElem? mF⟩
       exact⟨PC.kw pc,pc,rfl,rfl,(p4.eu pc hm).1,fun b hb=>.inr ⟨pc,hm,hb⟩⟩
     refine⟨_,r2.put (RA.kQ (by simp) p3 (fun j x p hj hp=>?_)) (fun q hq=>?_) hN⟩
     ·rw[List.getElem?_map,hp] at hj
      simp at hj
      subst hj
      have h1:=bL p (List.mem_of_getElem? hp)
      obtain⟨k,ps⟩:=p
      have AZ:=p3 (k,ps) (List.mem_of_getElem? hp)
      cases k with
      |ptr=>exact absurd rfl AZ.1
      |agg=>exact⟨ps.map PC.val,rfl,h1⟩
      |one=>
       have h2:=AZ.2 rfl
       match ps,h2 with
       |[p],_=>exact h1
     ·exfalso
      have ca:∀x∈aT.map (fun p=>(decide (p.1=Am.K.agg),p.2.map fun pc=>ah.c pc.er)),∀c∈x.2,¬c.ref q:=fun x hx c hc hq=>by
       obtain⟨p,_,rfl⟩:=List.mem_map.1 hx
       obtain⟨pc,_,rfl⟩:=List.mem_map.1 hc
       exact hq
      exact abm ca hq
    ·cases hx
   ·cases hx
  ·cases hx
 ·cases hx
def gw:List Operand->List MO->Bool
 |[],[]=>true
 |x::xs,m::ms=>bB x m&&gw xs ms
 |_,_=>false
theorem R.xW (r:R B E w0 N σ a w G):∀{xs:List Operand} {ms:List MO},gw xs ms=true->xs.length=ms.length/\
  ∀(j:Nat) (x:aj) (v:Value),(ms.map σ.ev)[j]? =some x->(xs.map a.eval)[j]? =some v->RA w G σ.h x v
 |[],[],_=>⟨rfl,by simp⟩
 |x::xs,m::ms,hc=>by
  simp only[gw,Bool.and_eq_true] at hc
  obtain⟨i1,i2⟩:=r.xW hc.2
  refine⟨by simp[i1],fun j x' v hj hv=>?_⟩
  cases j with
  |zero=>simp at hj hv;subst hj;subst hv;exact(r.ev hc.1).1
  |succ j=>exact i2 j x' v (by simpa using hj) (by simpa using hv)
 |[],_::_,hc=>by simp[gw] at hc
 |_::_,[],hc=>by simp[gw] at hc
theorem aeZ (r:R B E w0 N σ a w G) {T:aO} (hT:xE P T) {m:Mode} {f:FuncId} {xs:Array Operand} {ms:List MO} {ts:Array TypeId} {σ1:St} (hN:∀n,o.dst=some n->n<N)
  (ho:o.op=.call {callee:=.value (.func f),args:=xs,argTypes:=ts}) (hf:bC P f=true) (hm:gw xs.toList ms=true)
  (hx:rf T m o.dst f (ms.map σ.ev) σ=some σ1):o.wp P a w (Nx B E w0 N σ1) Q:=by
 obtain⟨e1,e2⟩:=r.xW hm
 refine Xy r hT (vals:=xs.toList.map a.eval) hN ?_ (by simpa using e1) e2 hx
 have he:(xs.toList.map a.eval).toArray=xs.map a.eval:=by apply Array.ext';simp
 rw[he]
 simp[execOp,ho,resolve,Deferred.ofValue,invoke,Act.eval,zd hf]
theorem ae0 (r:R B E w0 N σ a w G) {T:aO} (hT:xE P T) {f:FuncId} {xs:Array Operand} {ms:List MO} {ts:Array TypeId} {z:aj} (hN:∀n,o.dst=some n->n<N)
  (ho:o.op=.call {callee:=.value (.func f),args:=xs,argTypes:=ts}) (hf:bC P f=true) (hm:gw xs.toList ms=true)
  (hx:tF T f (ms.map σ.ev) σ.h=some z):o.wp P a w (Nx B E w0 N (σ.put o.dst z)) Q:=by
 obtain⟨e1,e2⟩:=r.xW hm
 refine ae8 r hT (vals:=xs.toList.map a.eval) hN ?_ (by simpa using e1) e2 hx
 have he:(xs.toList.map a.eval).toArray=xs.map a.eval:=by apply Array.ext';simp
 rw[he]
 simp[execOp,ho,resolve,Deferred.ofValue,invoke,Act.eval,zd hf]
theorem ae2 (r:R B E w0 N σ a w G) {T:aO} (hT:xE P T) {m:Mode} {f:FuncId} {x:Operand} {mx:MO} {cr:List ah} {xs:Array Operand} {ms:List MO} {ts:Array TypeId} {σ1:St} (hN:∀n,o.dst=some n->n<N)
  (ho:o.op=.call {callee:=.value x,args:=xs,argTypes:=ts}) (hf:bC P f=true) (OA:bB x mx=true) (hm:gw xs.toList ms=true) (he:σ.ev mx=.one (.fn f cr))
  (hx:rf T m o.dst f (ms.map σ.ev++cr.map .one) σ=some σ1):o.wp P a w (Nx B E w0 N σ1) Q:=by
 obtain⟨e1,e2⟩:=r.xW hm
 obtain⟨x1,x2⟩:=r.ev OA
 rw[he] at x1
 obtain⟨vs,v1,v2,v3⟩:=(x1.fH (by simp)).1
 refine Xy r hT (vals:=xs.toList.map a.eval++vs) hN ?_ (by simp[e1,v2]) (fun j y v hj hv=>?_) hx
 ·have ub:(xs.toList.map a.eval++vs).toArray=xs.map a.eval++vs.toArray:=by apply Array.ext';simp
  rw[ub]
  simp[execOp,ho,resolve,v1,Deferred.ofValue,invoke,zd hf]
 ·have H4:xs.size=ms.length:=by simpa using e1
  by_cases bG:j<ms.length
  ·rw[List.getElem?_append_left (by simpa using bG)] at hj
   rw[List.getElem?_append_left (by simp;omega)] at hv
   exact e2 j y v hj hv
  ·rw[List.getElem?_append_right (by simp;omega)] at hj
   rw[List.getElem?_append_right (by simp;omega)] at hv
   simp only[List.length_map,<-e1] at hj hv
   rw[List.getElem?_map] at hj
   simp only[e1] at hj hv
   cases hc:cr[j - ms.length]? with
   |none=>rw[hc] at hj;cases hj
   |some c=>
    rw[hc] at hj
    simp at hj
    subst hj
    obtain⟨q1,q2⟩:=v3 _ c v hc hv
    refine RA.ga q1 ?_
    by_cases DM:c.kJ=false
    ·rw[xD _ _ _ _ _ DM];exact q2
    ·cases c<;>first|exact q2.elim|(simp[ah.kJ] at DM)
end
end Go.Am
