/- Am16: results of calls come in; calls. No condition. -/
import Derived.Test.YtbgmbplglejidaaAm15
set_option linter.unusedVariables false
namespace Go.Am
section
variable {B:Nat} {E:Ex} {w0 w w':World} {G G':Gh} {h h':Nat->Option ao} {used used':Nat->Bool} {tk:List PC} {N:Nat}
variable {P:Program} {o:Oper} {a:Act} {σ σ':St} {Q:Exit->Act->World->Prop}
theorem HR.aiA (H:HR B E w G h used []) {n sz cap:Nat} {x:Option Addr} {xs:List (List PC)} {m:Mode} (hg:Good w (.list sz x cap xs)) (hs:Sep (.list sz x cap xs)) (ht:Dp w (.list sz x cap xs))
  (hl:∀b,jb b (.list sz x cap xs)->pf G h b/\dH w b/\B<=b) (hn:used n=false):
  ∃G',HR B E w G' (av h n (some (.row true m sz (xs.map fun e=>e.map PC.er)))) (av used n true) []/\
   bf w G h (fun n=>used n=true) w G' (av h n (some (.row true m sz (xs.map fun e=>e.map PC.er))))/\
   RC w G' (av h n (some (.row true m sz (xs.map fun e=>e.map PC.er)))) (.sl n sz 0 xs.length) (PC.val (.list sz x cap xs))/\
   ∀b,pf G h b->¬jb b (.list sz x cap xs)->pf G' (av h n (some (.row true m sz (xs.map fun e=>e.map PC.er)))) b:=by
 obtain⟨dR,jE,BJ⟩:=ht
 have hF:∀b,aX b xs->aT b (.list sz x cap xs):=fun b ⟨k,j,c,h1,h2⟩=>.there _ _ _ _ k j c h1 h2
 have ky:iy xs:=by cases hs with|list _ _ _ _ h1 h2 h3=>exact⟨h1,h3⟩
 let S:Nat->Prop:=fun b=>m≠ .live/\aX b xs
 have H1:HR B E w ⟨fun b=>G.Im b\/S b,G.g⟩ h used []:=H.qV S (fun b hb=>(hl b (.inl (hF b hb.2))).2.1.lt)
  (fun b hb q hq j0 he=>(hl b (.inl (hF b hb.2))).1.2.1 q hq j0 he.symm) (fun b hb q gr sz xs hq=>(hl b (.inl (hF b hb.2))).1.2.2 q gr _ sz xs hq) (fun b hb=>.inl (hl b (.inl (hF b hb.2))).2.2)
 obtain⟨p,aib,fL,EE,PE,aic,ah9⟩:∃p:PB,(p.nl=true->xs=[]/\(true=true->p.cap=0))/\p.px=xs/\
   (p.nl=false->pf ⟨fun b=>G.Im b\/S b,G.g⟩ h p.b/\dH w p.b/\B<=p.b/\∀b,aX b xs->b≠p.b)/\
   (p.nl=false->pg w p.b p.o sz xs/\xs.length<=p.cap/\GV w p sz)/\jA p sz 0 xs.length (PC.val (.list sz x cap xs))/\(p.nl=false->jb p.b (.list sz x cap xs)):=by
  by_cases OV:cap=0
  ·subst OV
   have hx:xs=[]:=List.eq_nil_of_length_eq_zero (by omega)
   subst hx
   exact⟨⟨true,0,0,0,[],x⟩,fun _=>⟨rfl,fun _=>rfl⟩,rfl,(fun hf=>by cases hf),(fun hf=>by cases hf),.inl ⟨rfl,rfl,rfl,rfl⟩,(fun hf=>by cases hf)⟩
  ·obtain⟨b,o,cur,e,rfl,hh,bI,yJ,cf⟩:=BJ.resolve_left OV
   have hT:jb b (.list sz (some (ad b o)) cap xs):=.inr ⟨_,_,_,_,rfl,OV⟩
   obtain⟨l1,l2,l3⟩:=hl b hT
   have aC:∀b',aX b' xs->b'≠b:=fun b' ⟨k,j,c,h1,h2⟩ he=>cf k j c h1 (he▸h2)
   refine⟨⟨false,b,o,cap,xs,none⟩,(fun hf=>by cases hf),rfl,fun _=>⟨⟨fun hi=>hi.elim l1.1 (fun hS=>aC b hS.2 rfl),l1.2⟩,l2,l3,aC⟩,fun _=>⟨?_,jE,yJ,cur,e,hh,bI⟩,.inr ⟨rfl,some (ad b o),by simp[PC.val],by simpa using jE,fun _=>by simp⟩,fun _=>hT⟩
   cases hg with
   |nil _ _ _ _=>exact⟨by simp,by rintro k j c ⟨e,he,_⟩;simp at he,by rintro k j c ⟨e,he,_⟩;simp at he⟩
   |cons _ _ _ _ _ h1 h2 h3 h4 h5 h6=>exact⟨h4,h5,h6⟩
 subst fL
 have eW:tU B E w ⟨fun b=>G.Im b\/S b,G.g⟩ true m sz (p.px.map fun e=>e.map PC.er) p:=by
  refine⟨dR,rfl,aib,fun hf=>⟨(EE hf).2.1,(PE hf).1,(PE hf).2.1⟩,fun hf _=>(PE hf).2.2,?_⟩
  cases hm:m with
  |aF=>exact fun b hb=>.inr ⟨by simp[hm],hb⟩
  |ab=>exact⟨fun b hb=>⟨.inr ⟨by simp[hm],hb⟩,(hl b (.inl (hF b hb))).2.1,.inl (hl b (.inl (hF b hb))).2.2⟩,ky⟩
  |live=>exact⟨fun b hb=>⟨fun hi=>hi.elim (hl b (.inl (hF b hb))).1.1 (fun hS=>hS.1 hm),(hl b (.inl (hF b hb))).2.1,.inl (hl b (.inl (hF b hb))).2.2⟩,ky⟩
 have Hn:=H1.insert (w':=w) (n:=n) (blk:=.row true m sz (p.px.map fun e=>e.map PC.er)) (p:=p) hn (fun _ _=>rfl) (Nat.le_refl _)
  (fun hf=>⟨(EE hf).1,.inl (EE hf).2.2.1,(EE hf).2.1.lt⟩) (fun cs c q hb=>by cases hb) (by exact eW)
  (fun gr m' aJ aq hb hm n' bm np ko iw h0 jg b cH=>(hl b (.inl (hF b cH))).1.2.2 n' bm np ko iw h0)
  (fun gr aJ aq hb b cH=>⟨fun hf=>(EE hf).2.2.2 b cH,fun n' h0 lm he=>(hl b (.inl (hF b cH))).1.2.1 n' h0 lm he.symm⟩)
  (fun gr m' aJ aq hb hm i pc b hi=>by simp at hi)
 refine⟨_,Hn,bf.trans (u2:=fun n=>used n=true) (fun _ h=>h) (bf.qV S _) (bf.insert H1 hn (fun _ _=>rfl)),fun _=>by simpa[bG] using aic,fun b hb OO=>?_⟩
 refine⟨fun hi=>hi.elim hb.1 (fun hS=>OO (.inl (hF b hS.2))),fun q hq j0 he=>?_,fun q gr mo aJ aq hq cH=>?_⟩
 ·by_cases fE:q=n
  ·subst fE
   simp only[bG] at j0 he
   exact OO (he▸ah9 j0)
  ·rw[cz _ _ _ _ fE] at hq
   simp only[cz _ _ _ _ fE] at j0 he
   exact hb.2.1 q hq j0 he
 ·by_cases fE:q=n
  ·subst fE
   simp only[bG] at cH
   exact OO (.inl (hF b cH))
  ·rw[cz _ _ _ _ fE] at hq
   simp only[cz _ _ _ _ fE] at cH
   exact hb.2.2 q gr mo aJ aq hq cH
structure tR (B:Nat) (w:World) (G:Gh) (h:Nat->Option ao) (ps:List PC):Prop where
 eA:∀pc∈ps,Good w pc/\Sep pc/\Dp w pc
 lone:∀pc∈ps,∀b,jb b pc->pf G h b/\dH w b/\B<=b
 nF:ps.Pairwise fun p q=>∀b,jb b p->¬jb b q
theorem tR.tail {p:PC} {ps:List PC} (hi:tR B w G h (p::ps)) (hL:∀b,pf G h b->¬jb b p->pf G' h' b):tR B w G' h' ps:=
 ⟨fun q hq=>hi.eA q (by simp[hq]),fun q hq b hb=>⟨hL b (hi.lone q (by simp[hq]) b hb).1 (fun hp=>(List.pairwise_cons.1 hi.nF).1 q hq b hp hb),(hi.lone q (by simp[hq]) b hb).2⟩,(List.pairwise_cons.1 hi.nF).2⟩
theorem HR.imp {m:Mode}:∀{ps qs:List PC} {σ σ1:St} {G:Gh} {nm ft:Nat} {l:List ah},HR B E w G σ.h σ.used []->σ.imp m nm (ps.map PC.er)=some (l,ft,σ1)->tR B w G σ.h (ps++qs)->
  ∃G',HR B E w G' σ1.h σ1.used []/\bf w G σ.h (fun n=>σ.used n=true) w G' σ1.h/\cT w G' σ1.h l (ps.map PC.val)/\(∀c∈l,∀q,c.ref q->σ1.used q=true)/\σ1.env=σ.env/\
   (∀q,σ.used q=true->σ1.used q=true)/\tR B w G' σ1.h qs
 |[],qs,σ,σ1,G,nm,ft,l,H,hx,hi=>by
  simp only[List.map_nil,St.imp] at hx
  injection hx with hx
  injection hx with h1 h2
  injection h2 with h2 h3
  subst h1 h3
  exact⟨G,H,bf.refl _ _ _ _,⟨rfl,by simp⟩,by simp,rfl,fun _ h=>h,by simpa using hi⟩
 |p::ps,qs,σ,σ2,G,nm,ft,l,H,hx,hi=>by
  have eR:∀(x:C) (hx:(match σ.imp m nm (ps.map PC.er) with|some (l,ft,σ2)=>some (ah.c x::l,ft,σ2)|none=>none)=some (l,ft,σ2)) (hp:p.er=x) (cf:∀b,¬jb b p) (hg:Good w p),
    ∃G',HR B E w G' σ2.h σ2.used []/\bf w G σ.h (fun n=>σ.used n=true) w G' σ2.h/\cT w G' σ2.h l ((p::ps).map PC.val)/\(∀c∈l,∀q,c.ref q->σ2.used q=true)/\σ2.env=σ.env/\
     (∀q,σ.used q=true->σ2.used q=true)/\tR B w G' σ2.h qs:=by
   intro x hx hp cf hg
   split at hx
   ·rename_i l' E9 gW e1
    injection hx with hx
    injection hx with h1 h2
    injection h2 with h2 h3
    subst h1 h2 h3
    obtain⟨G',b1,b2,b3,b4,b5,b6,b7⟩:=HR.imp H e1 (hi.tail (fun b hb _=>hb))
    refine⟨G',b1,b2,⟨by simp[b3.1],fun j c u hj hu=>?_⟩,fun c hc q hq=>?_,b5,b6,b7⟩
    ·cases j with
     |zero=>
      simp at hj hu;subst hj;subst hu
      exact⟨PC.kN p,p,hp,rfl,hg,fun b hb=>absurd (.inl hb) (cf b)⟩
     |succ j=>exact b3.2 j c u (by simpa using hj) (by simpa using hu)
    ·cases hc with
     |head=>exact absurd hq id
     |tail _ hc=>exact b4 c hc q hq
   ·cases hx
  cases p with
  |int k n=>exact eR (.int k n) (by simp only[List.map_cons,St.imp,PC.er] at hx;exact hx) (by simp[PC.er]) (fun b hb=>by rcases hb with hb|⟨_,_,_,_,hb,_⟩<;>cases hb) (.int _ _)
  |bool b=>exact eR (.bool b) (by simp only[List.map_cons,St.imp,PC.er] at hx;exact hx) (by simp[PC.er]) (fun b hb=>by rcases hb with hb|⟨_,_,_,_,hb,_⟩<;>cases hb) (.bool _)
  |list sz x cap xs=>
   simp only[List.map_cons,PC.dO,St.imp] at hx
   split at hx
   ·rename_i σ1 e1
    split at hx
    ·rename_i l' E9 gW e2
     injection hx with hx
     injection hx with h1 h2
     injection h2 with h2 h3
     subst h1 h2 h3
     obtain⟨hn,rfl⟩:=mE e1
     obtain⟨g1,g2,g3⟩:=hi.eA (.list sz x cap xs) (by simp)
     obtain⟨G1,a1,a2,a3,a4⟩:=H.aiA (m:=m) g1 g2 g3 (hi.lone (.list sz x cap xs) (by simp)) hn
     obtain⟨G',b1,b2,b3,b4,b5,b6,b7⟩:=HR.imp a1 e2 (hi.tail a4)
     have BL:∀q,σ.used q=true->av σ.used nm true q=true:=fun q hq=>rE _ _ hq
     refine⟨G',b1,bf.trans BL a2 b2,⟨by simp[b3.1],fun j c u hj hu=>?_⟩,fun c hc q hq=>?_,b5,fun q hq=>b6 q (BL q hq),b7⟩
     ·cases j with
      |zero=>
       simp at hj hu;subst hj;subst hu
       exact⟨rfl,a3.ff b2 fun q hq=>by have eD:q=nm:=hq;subst eD;exact bG _ _ _⟩
      |succ j=>exact b3.2 j c u (by simpa using hj) (by simpa using hu)
     ·cases hc with
      |head=>have eD:q=nm:=hq;subst eD;exact b6 _ (bG _ _ _)
      |tail _ hc=>exact b4 c hc q hq
    ·cases hx
   ·cases hx
theorem HR.jK {m:Mode}:∀{aW:List (K×List PC)} {σ σ1:St} {G:Gh} {nm:Nat} {ls:List (Bool×List ah)},HR B E w G σ.h σ.used []->σ.jK m nm (aW.map fun p=>(p.1,p.2.map PC.er))=some (ls,σ1)->
  (∀p∈aW,p.1≠ .ptr/\(p.1=.one->p.2.length=1))->tR B w G σ.h (aW.flatMap (·.2))->
  ∃G',HR B E w G' σ1.h σ1.used []/\bf w G σ.h (fun n=>σ.used n=true) w G' σ1.h/\ls.length=aW.length/\
   (∀(j:Nat) (x:Bool×List ah) (p:K×List PC),ls[j]? =some x->aW[j]? =some p->RV w G' σ1.h x.1 x.2 (rp p))/\(∀x∈ls,∀c∈x.2,∀q,c.ref q->σ1.used q=true)/\σ1.env=σ.env/\
   (∀q,σ.used q=true->σ1.used q=true)
 |[],σ,σ1,G,nm,ls,H,hx,hk,hi=>by
  simp only[List.map_nil,St.jK] at hx
  injection hx with hx
  injection hx with h1 h2
  subst h1 h2
  exact⟨G,H,bf.refl _ _ _ _,rfl,by simp,by simp,rfl,fun _ h=>h⟩
 |(k,ps)::aW,σ,σ2,G,nm,ls,H,hx,hk,hi=>by
  have Bw:=hk (k,ps) (by simp)
  have fM:(match σ.imp m nm (ps.map PC.er) with
   |some (l,ft,σ1)=>match σ1.jK m ft (aW.map fun p=>(p.1,p.2.map PC.er)) with
    |some (ls,σ2)=>some ((decide (k=.agg),l)::ls,σ2)
    |none=>none
   |none=>none)=some (ls,σ2):=by
   cases k with
   |ptr=>exact absurd rfl Bw.1
   |one=>simp[St.jK] at hx;exact hx
   |agg=>simp[St.jK] at hx;exact hx
  clear hx
  split at fM
  ·rename_i l ft σ1 e1
   split at fM
   ·rename_i zi gW e2
    injection fM with hx
    injection hx with h1 h2
    subst h1 h2
    obtain⟨G1,a1,a2,a3,a4,a5,a6,a7⟩:=HR.imp H e1 (by simpa using hi)
    obtain⟨G',b1,b2,b3,b4,b5,b6,b7⟩:=HR.jK a1 e2 (fun p hp=>hk p (by simp[hp])) a7
    refine⟨G',b1,bf.trans a6 a2 b2,by simp[b3],fun j x p hj hp=>?_,fun x hx c hc q hq=>?_,b6.trans a5,fun q hq=>b7 q (a6 q hq)⟩
    ·cases j with
     |zero=>
      simp at hj hp;subst hj;subst hp
      have bO:=cT.ff b2 (fun c hc q hq=>a4 c hc q hq) a3
      cases k with
      |ptr=>exact absurd rfl Bw.1
      |agg=>exact⟨ps.map PC.val,rfl,bO⟩
      |one=>
       have h1:=Bw.2 rfl
       match ps,h1 with
       |[p],_=>exact bO
     |succ j=>exact b4 j x p (by simpa using hj) (by simpa using hp)
    ·cases hx with
     |head=>exact b7 q (a4 c hc q hq)
     |tail _ hx=>exact b5 x hx c hc q hq
   ·cases fM
  ·cases fM
theorem RA.lH {ls:List (Bool×List ah)} {aW:List (K×List PC)} (hlen:ls.length=aW.length) (hk:∀p∈aW,p.1≠ .ptr/\(p.1=.one->p.2.length=1))
  (hv:∀(j:Nat) (x:Bool×List ah) (p:K×List PC),ls[j]? =some x->aW[j]? =some p->RV w G h x.1 x.2 (rp p)):RA w G h (lH ls) (xd aW):=by
 match ls,aW,hlen with
 |[],[],_=>exact⟨[],rfl,rfl,by simp⟩
 |[(ag,cs)],[p],_=>
  have h0:=hv 0 (ag,cs) p rfl rfl
  cases ag with
  |true=>exact h0
  |false=>
   have bO:cT w G h cs [rp p]:=h0
   match cs,bO.1 with
   |[c],_=>exact .inr h0
 |x::y::ls,p::q::aW,hl=>
  refine⟨(p::q::aW).map rp,rfl,by simpa using hl.symm,fun j x' u hj hu=>?_⟩
  rw[List.getElem?_map] at hu
  cases hp:(p::q::aW)[j]? with
  |none=>rw[hp] at hu;cases hu
  |some p'=>rw[hp] at hu;simp at hu;subst hu;exact hv j x' p' hj hp
def xS (P:Program) (T:aO):Prop:=∀f M,aO.find T.pure f=some M->du P f M
def bD (P:Program) (f:FuncId):Bool:=
 match P.funcs[f]? with
 |some fn=>fn.body.isSome&&(fn.name != "runtime.NumGoroutine")
 |none=>false
theorem zD {f:FuncId} (hc:bD P f=true) (args:Array Value):(callFunc f args).run P w=.ok (.enter f args) w:=by
 unfold bD at hc
 split at hc
 ·rename_i fn hf
  simp only[Bool.and_eq_true,bne_iff_ne,ne_eq] at hc
  obtain⟨h1,h2⟩:=hc
  cases hb:fn.body with
  |none=>rw[hb] at h1;cases h1
  |some c=>simp[callFunc,hf,h2,hb]
 ·cases hc
theorem Fr.call (F:Fr B E w0 w) (F':Fr w.heap.size Ex.no w w'):Fr B E w0 w':=
 F.grow (fun b hb=>F'.block b hb id) F'.size F'.os F'.tape F'.output
theorem Yj (r:R B E w0 N σ a w G) {T:aO} (hT:xS P T) {m:Mode} {f:FuncId} {as:List aj} {vals:List Value} {σ1:St} (hN:∀n,o.dst=some n->n<N)
  (bX:(execOp a.eval o).run P w=.ok (.enter f vals.toArray) w) (hl:vals.length=as.length)
  (uu:∀(j:Nat) (x:aj) (v:Value),as[j]? =some x->vals[j]? =some v->RA w G σ.h x v)
  (hx:rQ T m o.dst f as σ=some σ1):o.wp P a w (Nx B E w0 N σ1) Q:=by
 unfold rQ at hx
 split at hx
 ·rename_i ds nJ
  split at hx
  ·rename_i M hM
   split at hx
   ·rename_i rs se
    split at hx
    ·rename_i ls σ2 wm
     injection hx with hx
     subst hx
     have r7:=r.hr.kO nJ hl uu
     unfold Oper.wp
     rw[bX]
     refine(hT f M hM ds rs se w vals r7).mono fun e w' ⟨aW,p1,p2,p3,p4,p5⟩=>?_
     subst p2
     have ig:∀b,b<w.heap.size->w'.heap[b]? =w.heap[b]? :=fun b hb=>p5.block b hb id
     have H':=r.hr.grow ig p5.size
     have fT:tR B w' G σ.h (aW.flatMap (·.2)):=by
      refine⟨p4.eA,fun pc aU b hb=>?_,?_⟩
      ·obtain⟨n1,n2⟩:=p4.new pc aU b hb
       refine⟨⟨fun hi=>?_,fun q hq j0 he=>?_,fun q gr mo sz xs hq cH=>?_⟩,n2,Nat.le_trans r.fr.size n1⟩
       ·have:=r.hr.fW b hi;omega
       ·have:=(r.hr.own q hq j0).2.2;omega
       ·have:=r.hr.rq hq cH;omega
      ·rw[List.pairwise_iff_getElem]
       intro i j hi hj jG b hb
       exact p4.nF i j _ _ b (by omega) (List.getElem?_eq_getElem hi) (List.getElem?_eq_getElem hj) hb
     rw[<-p1] at wm
     obtain⟨G',b1,b2,b3,b4,b5,b6,b7⟩:=HR.jK H' wm p3 fT
     have K:bf w G σ.h (fun n=>σ.used n=true) w' G' σ2.h:=bf.trans (fun _ h=>h) (bf.world (fun b hb=>ig b (r.hr.fW b hb)) _) b2
     have r2:R B E w0 N σ2 a w' G':=r.step b6 b7 K b1 (r.fr.call p5)
     refine⟨G',r2.put (RA.lH b3 p3 b4) ?_ hN⟩
     intro q hq
     match ls,hq with
     |[],hq=>obtain⟨x,hx,_⟩:=hq;simp at hx
     |[(true,cs)],hq=>obtain⟨c,hc,hq⟩:=hq;exact b5 (true,cs) (by simp) c hc q hq
     |[(false,[c])],hq=>exact b5 (false,[c]) (by simp) c (by simp) q hq
     |[(false,[])],hq=>exact absurd hq id
     |[(false,_::_::_)],hq=>exact absurd hq id
     |x::y::ls,hq=>obtain⟨x',fM,c,hc,hq⟩:=hq;exact b5 x' fM c hc q hq
    ·cases hx
   ·cases hx
  ·cases hx
 ·cases hx
theorem Nk:∀{aW:List (K×List PC)} {ls:List (Bool×List ah)},gH (aW.map fun p=>(p.1,p.2.map PC.er))=some ls->ls=aW.map fun p=>(decide (p.1=.agg),p.2.map fun pc=>ah.c pc.er)
 |[],ls,h=>by simp only[List.map_nil,gH] at h;injection h with h;exact h.symm
 |(k,ps)::aW,ls,h=>by
  cases k with
  |ptr=>simp[gH] at h
  |one=>
   simp only[List.map_cons,gH] at h
   split at h
   ·rename_i zi e
    injection h with h
    rw[<-h,Nk e,List.map_map]
    rfl
   ·cases h
  |agg=>
   simp only[List.map_cons,gH] at h
   split at h
   ·rename_i zi e
    injection h with h
    rw[<-h,Nk e,List.map_map]
    rfl
   ·cases h
theorem ab7 {ls:List (Bool×List ah)} {q:Nat} (cf:∀x∈ls,∀c∈x.2,¬c.ref q):¬(lH ls).ref q:=by
 intro hq
 match ls,hq with
 |[],hq=>obtain⟨x,hx,_⟩:=hq;simp at hx
 |[(true,cs)],hq=>obtain⟨c,hc,hq⟩:=hq;exact cf (true,cs) (by simp) c hc hq
 |[(false,[c])],hq=>exact cf (false,[c]) (by simp) c (by simp) hq
 |[(false,[])],hq=>exact hq
 |[(false,_::_::_)],hq=>exact hq
 |x::y::ls,hq=>obtain⟨x',fM,c,hc,hq⟩:=hq;exact cf x' fM c hc hq
theorem afU (r:R B E w0 N σ a w G) {T:aO} (hT:xS P T) {f:FuncId} {as:List aj} {vals:List Value} {z:aj} (hN:∀n,o.dst=some n->n<N)
  (bX:(execOp a.eval o).run P w=.ok (.enter f vals.toArray) w) (hl:vals.length=as.length)
  (uu:∀(j:Nat) (x:aj) (v:Value),as[j]? =some x->vals[j]? =some v->RA w G σ.h x v)
  (hx:tZ T f as σ.h=some z):o.wp P a w (Nx B E w0 N (σ.put o.dst z)) Q:=by
 unfold tZ at hx
 split at hx
 ·rename_i ds nJ
  split at hx
  ·rename_i M hM
   split at hx
   ·rename_i rs se
    split at hx
    ·rename_i ls wm
     injection hx with hx
     subst hx
     have r7:=r.hr.kO nJ hl uu
     unfold Oper.wp
     rw[bX]
     refine(hT f M hM ds rs se w vals r7).mono fun e w' ⟨aW,p1,p2,p3,p4,p5⟩=>?_
     subst p2
     have ig:∀b,b<w.heap.size->w'.heap[b]? =w.heap[b]? :=fun b hb=>p5.block b hb id
     have H':=r.hr.grow ig p5.size
     rw[<-p1] at wm
     have Bx:=Nk wm
     subst Bx
     let S:Nat->Prop:=fun b=>∃pc∈aW.flatMap (·.2),aT b pc
     have hS:∀b,S b->w.heap.size<=b/\b<w'.heap.size:=fun b ⟨pc,aU,hb⟩=>by
      obtain⟨n1,n2⟩:=p4.new pc aU b (.inl hb)
      exact⟨n1,n2.lt⟩
     have H2:HR B E w' ⟨fun b=>G.Im b\/S b,G.g⟩ σ.h σ.used []:=H'.qV S (fun b hb=>(hS b hb).2) (fun b hb n hn hl he=>by have:=(hS b hb).1;have:=(r.hr.own n hn hl).2.2;omega)
      (fun b hb n gr sz xs hn hF=>by have:=(hS b hb).1;have:=r.hr.rq hn hF;omega) (fun b hb=>.inl (Nat.le_trans r.fr.size (hS b hb).1))
     have K:bf w G σ.h (fun n=>σ.used n=true) w' ⟨fun b=>G.Im b\/S b,G.g⟩ σ.h:=bf.trans (fun _ h=>h) (bf.world (fun b hb=>ig b (r.hr.fW b hb)) _) (bf.qV S _)
     have r2:R B E w0 N σ a w' ⟨fun b=>G.Im b\/S b,G.g⟩:=r.step rfl (fun _ h=>h) K H2 (r.fr.call p5)
     have bO:∀p∈aW,cT w' ⟨fun b=>G.Im b\/S b,G.g⟩ σ.h (p.2.map fun pc=>ah.c pc.er) (p.2.map PC.val):=fun p hp=>by
      refine⟨by simp,fun j c u hj hu=>?_⟩
      rw[List.getElem?_map] at hj hu
      cases m5:p.2[j]? with
      |none=>rw[m5] at hj;cases hj
      |some pc=>
       rw[m5] at hj hu
       simp at hj hu
       subst hj hu
       have hm:pc∈aW.flatMap (·.2):=List.mem_flatMap.2 ⟨p,hp,List.mem_of_getElem? m5⟩
       exact⟨PC.kN pc,pc,rfl,rfl,(p4.eA pc hm).1,fun b hb=>.inr ⟨pc,hm,hb⟩⟩
     refine⟨_,r2.put (RA.lH (by simp) p3 (fun j x p hj hp=>?_)) (fun q hq=>?_) hN⟩
     ·rw[List.getElem?_map,hp] at hj
      simp at hj
      subst hj
      have h1:=bO p (List.mem_of_getElem? hp)
      obtain⟨k,ps⟩:=p
      have Bw:=p3 (k,ps) (List.mem_of_getElem? hp)
      cases k with
      |ptr=>exact absurd rfl Bw.1
      |agg=>exact⟨ps.map PC.val,rfl,h1⟩
      |one=>
       have h2:=Bw.2 rfl
       match ps,h2 with
       |[p],_=>exact h1
     ·exfalso
      have cf:∀x∈aW.map (fun p=>(decide (p.1=Am.K.agg),p.2.map fun pc=>ah.c pc.er)),∀c∈x.2,¬c.ref q:=fun x hx c hc hq=>by
       obtain⟨p,_,rfl⟩:=List.mem_map.1 hx
       obtain⟨pc,_,rfl⟩:=List.mem_map.1 hc
       exact hq
      exact ab7 cf hq
    ·cases hx
   ·cases hx
  ·cases hx
 ·cases hx
def gG:List Operand->List MO->Bool
 |[],[]=>true
 |x::xs,m::ms=>bz x m&&gG xs ms
 |_,_=>false
theorem R.yg (r:R B E w0 N σ a w G):∀{xs:List Operand} {ms:List MO},gG xs ms=true->xs.length=ms.length/\
  ∀(j:Nat) (x:aj) (v:Value),(ms.map σ.ev)[j]? =some x->(xs.map a.eval)[j]? =some v->RA w G σ.h x v
 |[],[],_=>⟨rfl,by simp⟩
 |x::xs,m::ms,hc=>by
  simp only[gG,Bool.and_eq_true] at hc
  obtain⟨i1,i2⟩:=r.yg hc.2
  refine⟨by simp[i1],fun j x' v hj hv=>?_⟩
  cases j with
  |zero=>simp at hj hv;subst hj;subst hv;exact(r.ev hc.1).1
  |succ j=>exact i2 j x' v (by simpa using hj) (by simpa using hv)
 |[],_::_,hc=>by simp[gG] at hc
 |_::_,[],hc=>by simp[gG] at hc
theorem afL (r:R B E w0 N σ a w G) {T:aO} (hT:xS P T) {m:Mode} {f:FuncId} {xs:Array Operand} {ms:List MO} {ts:Array TypeId} {σ1:St} (hN:∀n,o.dst=some n->n<N)
  (ho:o.op=.call {callee:=.value (.func f),args:=xs,argTypes:=ts}) (hf:bD P f=true) (hm:gG xs.toList ms=true)
  (hx:rQ T m o.dst f (ms.map σ.ev) σ=some σ1):o.wp P a w (Nx B E w0 N σ1) Q:=by
 obtain⟨e1,e2⟩:=r.yg hm
 refine Yj r hT (vals:=xs.toList.map a.eval) hN ?_ (by simpa using e1) e2 hx
 have he:(xs.toList.map a.eval).toArray=xs.map a.eval:=by apply Array.ext';simp
 rw[he]
 simp[execOp,ho,resolve,Deferred.ofValue,invoke,Act.eval,zD hf]
theorem afM (r:R B E w0 N σ a w G) {T:aO} (hT:xS P T) {f:FuncId} {xs:Array Operand} {ms:List MO} {ts:Array TypeId} {z:aj} (hN:∀n,o.dst=some n->n<N)
  (ho:o.op=.call {callee:=.value (.func f),args:=xs,argTypes:=ts}) (hf:bD P f=true) (hm:gG xs.toList ms=true)
  (hx:tZ T f (ms.map σ.ev) σ.h=some z):o.wp P a w (Nx B E w0 N (σ.put o.dst z)) Q:=by
 obtain⟨e1,e2⟩:=r.yg hm
 refine afU r hT (vals:=xs.toList.map a.eval) hN ?_ (by simpa using e1) e2 hx
 have he:(xs.toList.map a.eval).toArray=xs.map a.eval:=by apply Array.ext';simp
 rw[he]
 simp[execOp,ho,resolve,Deferred.ofValue,invoke,Act.eval,zD hf]
theorem afO (r:R B E w0 N σ a w G) {T:aO} (hT:xS P T) {m:Mode} {f:FuncId} {x:Operand} {mx:MO} {cA:List ah} {xs:Array Operand} {ms:List MO} {ts:Array TypeId} {σ1:St} (hN:∀n,o.dst=some n->n<N)
  (ho:o.op=.call {callee:=.value x,args:=xs,argTypes:=ts}) (hf:bD P f=true) (Pv:bz x mx=true) (hm:gG xs.toList ms=true) (he:σ.ev mx=.one (.fn f cA))
  (hx:rQ T m o.dst f (ms.map σ.ev++cA.map .one) σ=some σ1):o.wp P a w (Nx B E w0 N σ1) Q:=by
 obtain⟨e1,e2⟩:=r.yg hm
 obtain⟨x1,x2⟩:=r.ev Pv
 rw[he] at x1
 obtain⟨vs,v1,v2,v3⟩:=(x1.fH (by simp)).1
 refine Yj r hT (vals:=xs.toList.map a.eval++vs) hN ?_ (by simp[e1,v2]) (fun j y v hj hv=>?_) hx
 ·have uB:(xs.toList.map a.eval++vs).toArray=xs.map a.eval++vs.toArray:=by apply Array.ext';simp
  rw[uB]
  simp[execOp,ho,resolve,v1,Deferred.ofValue,invoke,zD hf]
 ·have IJ:xs.size=ms.length:=by simpa using e1
  by_cases bH:j<ms.length
  ·rw[List.getElem?_append_left (by simpa using bH)] at hj
   rw[List.getElem?_append_left (by simp;omega)] at hv
   exact e2 j y v hj hv
  ·rw[List.getElem?_append_right (by simp;omega)] at hj
   rw[List.getElem?_append_right (by simp;omega)] at hv
   simp only[List.length_map,<-e1] at hj hv
   rw[List.getElem?_map] at hj
   simp only[e1] at hj hv
   cases hc:cA[j - ms.length]? with
   |none=>rw[hc] at hj;cases hj
   |some c=>
    rw[hc] at hj
    simp at hj
    subst hj
    obtain⟨q1,q2⟩:=v3 _ c v hc hv
    refine RA.gu q1 ?_
    by_cases Eo:c.lv=false
    ·rw[xR _ _ _ _ _ Eo];exact q2
    ·cases c<;>first|exact q2.elim|(simp[ah.lv] at Eo)
end
end Go.Am
