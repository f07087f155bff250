/- Am16: results of calls come in; calls. No condition. -/
import Derived.Test.YtfkfmbhknekkdaaAm15
set_option linter.unusedVariables false
namespace Go.Am
section
variable {B:Nat} {E:Ex} {w0 w w':World} {G G':Gh} {h h':Nat->Option ak} {used used':Nat->Bool} {tk:List PC} {N:Nat}
variable {P:Program} {o:Oper} {a:Act} {σ σ':St} {Q:Exit->Act->World->Prop}
theorem HR.afe (H:HR B E w G h used []) {n sz cap:Nat} {x:Option Addr} {xs:List (List PC)} {m:Mode} (hg:Good w (.list sz x cap xs)) (hs:Sep (.list sz x cap xs)) (ht:AH w (.list sz x cap xs))
  (hl:∀b,il b (.list sz x cap xs)->mP G h b/\dm w b/\B<=b) (hn:used n=false):
  ∃G',HR B E w G' (aq h n (some (.row true m sz (xs.map fun e=>e.map PC.er)))) (aq used n true) []/\
   aQ w G h (fun n=>used n=true) w G' (aq h n (some (.row true m sz (xs.map fun e=>e.map PC.er))))/\
   RC w G' (aq h n (some (.row true m sz (xs.map fun e=>e.map PC.er)))) (.sl n sz 0 xs.length) (PC.val (.list sz x cap xs))/\
   ∀b,mP G h b->¬il b (.list sz x cap xs)->mP G' (aq h n (some (.row true m sz (xs.map fun e=>e.map PC.er)))) b:=by
 obtain⟨dU,hH,yY⟩:=ht
 have hF:∀b,aN b xs->aM b (.list sz x cap xs):=fun b ⟨k,j,c,h1,h2⟩=>.there _ _ _ _ k j c h1 h2
 have je:gx xs:=by cases hs with|list _ _ _ _ h1 h2 h3=>exact⟨h1,h3⟩
 let S:Nat->Prop:=fun b=>m≠ .live/\aN b xs
 have H1:HR B E w ⟨fun b=>G.Im b\/S b,G.g⟩ h used []:=H.ot S (fun b hb=>(hl b (.inl (hF b hb.2))).2.1.lt)
  (fun b hb q hq iM he=>(hl b (.inl (hF b hb.2))).1.2.1 q hq iM he.symm) (fun b hb q gr sz xs hq=>(hl b (.inl (hF b hb.2))).1.2.2 q gr _ sz xs hq) (fun b hb=>.inl (hl b (.inl (hF b hb.2))).2.2)
 obtain⟨p,adl,eN,wA,K4,adm,adj⟩:∃p:PB,(p.nl=true->xs=[]/\(true=true->p.cap=0))/\p.px=xs/\
   (p.nl=false->mP ⟨fun b=>G.Im b\/S b,G.g⟩ h p.b/\dm w p.b/\B<=p.b/\∀b,aN b xs->b≠p.b)/\
   (p.nl=false->mQ w p.b p.o sz xs/\xs.length<=p.cap/\Ds w p sz)/\gy p sz 0 xs.length (PC.val (.list sz x cap xs))/\(p.nl=false->il p.b (.list sz x cap xs)):=by
  by_cases Ky:cap=0
  ·subst Ky
   have hx:xs=[]:=List.eq_nil_of_length_eq_zero (by omega)
   subst hx
   exact⟨⟨true,0,0,0,[],x⟩,fun _=>⟨rfl,fun _=>rfl⟩,rfl,(fun hf=>by cases hf),(fun hf=>by cases hf),.inl ⟨rfl,rfl,rfl,rfl⟩,(fun hf=>by cases hf)⟩
  ·obtain⟨b,o,cur,e,rfl,hh,bo,wu,cq⟩:=yY.resolve_left Ky
   have hT:il b (.list sz (some (ad b o)) cap xs):=.inr ⟨_,_,_,_,rfl,Ky⟩
   obtain⟨l1,l2,l3⟩:=hl b hT
   have av:∀b',aN b' xs->b'≠b:=fun b' ⟨k,j,c,h1,h2⟩ he=>cq k j c h1 (he▸h2)
   refine⟨⟨false,b,o,cap,xs,none⟩,(fun hf=>by cases hf),rfl,fun _=>⟨⟨fun hi=>hi.elim l1.1 (fun hS=>av b hS.2 rfl),l1.2⟩,l2,l3,av⟩,fun _=>⟨?_,hH,wu,cur,e,hh,bo⟩,.inr ⟨rfl,some (ad b o),by simp[PC.val],by simpa using hH,fun _=>by simp⟩,fun _=>hT⟩
   cases hg with
   |nil _ _ _ _=>exact⟨by simp,by rintro k j c ⟨e,he,_⟩;simp at he,by rintro k j c ⟨e,he,_⟩;simp at he⟩
   |cons _ _ _ _ _ h1 h2 h3 h4 h5 h6=>exact⟨h4,h5,h6⟩
 subst eN
 have d9:rS B E w ⟨fun b=>G.Im b\/S b,G.g⟩ true m sz (p.px.map fun e=>e.map PC.er) p:=by
  refine⟨dU,rfl,adl,fun hf=>⟨(wA hf).2.1,(K4 hf).1,(K4 hf).2.1⟩,fun hf _=>(K4 hf).2.2,?_⟩
  cases hm:m with
  |aF=>exact fun b hb=>.inr ⟨by simp[hm],hb⟩
  |aj=>exact⟨fun b hb=>⟨.inr ⟨by simp[hm],hb⟩,(hl b (.inl (hF b hb))).2.1,.inl (hl b (.inl (hF b hb))).2.2⟩,je⟩
  |live=>exact⟨fun b hb=>⟨fun hi=>hi.elim (hl b (.inl (hF b hb))).1.1 (fun hS=>hS.1 hm),(hl b (.inl (hF b hb))).2.1,.inl (hl b (.inl (hF b hb))).2.2⟩,je⟩
 have Hn:=H1.insert (w':=w) (n:=n) (blk:=.row true m sz (p.px.map fun e=>e.map PC.er)) (p:=p) hn (fun _ _=>rfl) (Nat.le_refl _)
  (fun hf=>⟨(wA hf).1,.inl (wA hf).2.2.1,(wA hf).2.1.lt⟩) (fun cs c q hb=>by cases hb) (by exact d9)
  (fun gr m' aC ao hb hm n' aU kR iS gw h0 ia b cz=>(hl b (.inl (hF b cz))).1.2.2 n' aU kR iS gw h0)
  (fun gr aC ao hb b cz=>⟨fun hf=>(wA hf).2.2.2 b cz,fun n' h0 lA he=>(hl b (.inl (hF b cz))).1.2.1 n' h0 lA he.symm⟩)
  (fun gr m' aC ao hb hm i pc b hi=>by simp at hi)
 refine⟨_,Hn,aQ.trans (u2:=fun n=>used n=true) (fun _ h=>h) (aQ.ot S _) (aQ.insert H1 hn (fun _ _=>rfl)),fun _=>by simpa[bu] using adm,fun b hb Ks=>?_⟩
 refine⟨fun hi=>hi.elim hb.1 (fun hS=>Ks (.inl (hF b hS.2))),fun q hq iM he=>?_,fun q gr mo aC ao hq cz=>?_⟩
 ·by_cases e7:q=n
  ·subst e7
   simp only[bu] at iM he
   exact Ks (he▸adj iM)
  ·rw[cd _ _ _ _ e7] at hq
   simp only[cd _ _ _ _ e7] at iM he
   exact hb.2.1 q hq iM he
 ·by_cases e7:q=n
  ·subst e7
   simp only[bu] at cz
   exact Ks (.inl (hF b cz))
  ·rw[cd _ _ _ _ e7] at hq
   simp only[cd _ _ _ _ e7] at cz
   exact hb.2.2 q gr mo aC ao hq cz
structure rN (B:Nat) (w:World) (G:Gh) (h:Nat->Option ak) (ps:List PC):Prop where
 dA:∀pc∈ps,Good w pc/\Sep pc/\AH w pc
 lone:∀pc∈ps,∀b,il b pc->mP G h b/\dm w b/\B<=b
 lm:ps.Pairwise fun p q=>∀b,il b p->¬il b q
theorem rN.tail {p:PC} {ps:List PC} (hi:rN B w G h (p::ps)) (hL:∀b,mP G h b->¬il b p->mP G' h' b):rN B w G' h' ps:=
 ⟨fun q hq=>hi.dA q (by simp[hq]),fun q hq b hb=>⟨hL b (hi.lone q (by simp[hq]) b hb).1 (fun hp=>(List.pairwise_cons.1 hi.lm).1 q hq b hp hb),(hi.lone q (by simp[hq]) b hb).2⟩,(List.pairwise_cons.1 hi.lm).2⟩
theorem HR.imp {m:Mode}:∀{ps qs:List PC} {σ σ1:St} {G:Gh} {nm eP:Nat} {l:List ae},HR B E w G σ.h σ.used []->σ.imp m nm (ps.map PC.er)=some (l,eP,σ1)->rN B w G σ.h (ps++qs)->
  ∃G',HR B E w G' σ1.h σ1.used []/\aQ w G σ.h (fun n=>σ.used n=true) w G' σ1.h/\cL w G' σ1.h l (ps.map PC.val)/\(∀c∈l,∀q,c.ref q->σ1.used q=true)/\σ1.env=σ.env/\
   (∀q,σ.used q=true->σ1.used q=true)/\rN B w G' σ1.h qs
 |[],qs,σ,σ1,G,nm,eP,l,H,hx,hi=>by
  simp only[List.map_nil,St.imp] at hx
  injection hx with hx
  injection hx with h1 h2
  injection h2 with h2 h3
  subst h1 h3
  exact⟨G,H,aQ.refl _ _ _ _,⟨rfl,by simp⟩,by simp,rfl,fun _ h=>h,by simpa using hi⟩
 |p::ps,qs,σ,σ2,G,nm,eP,l,H,hx,hi=>by
  have dX:∀(x:C) (hx:(match σ.imp m nm (ps.map PC.er) with|some (l,eP,σ2)=>some (ae.c x::l,eP,σ2)|none=>none)=some (l,eP,σ2)) (hp:p.er=x) (cq:∀b,¬il b p) (hg:Good w p),
    ∃G',HR B E w G' σ2.h σ2.used []/\aQ w G σ.h (fun n=>σ.used n=true) w G' σ2.h/\cL w G' σ2.h l ((p::ps).map PC.val)/\(∀c∈l,∀q,c.ref q->σ2.used q=true)/\σ2.env=σ.env/\
     (∀q,σ.used q=true->σ2.used q=true)/\rN B w G' σ2.h qs:=by
   intro x hx hp cq hg
   split at hx
   ·rename_i l' Cv fm e1
    injection hx with hx
    injection hx with h1 h2
    injection h2 with h2 h3
    subst h1 h2 h3
    obtain⟨G',b1,b2,b3,b4,b5,b6,b7⟩:=HR.imp H e1 (hi.tail (fun b hb _=>hb))
    refine⟨G',b1,b2,⟨by simp[b3.1],fun j c u hj hu=>?_⟩,fun c hc q hq=>?_,b5,b6,b7⟩
    ·cases j with
     |zero=>
      simp at hj hu;subst hj;subst hu
      exact⟨PC.jN p,p,hp,rfl,hg,fun b hb=>absurd (.inl hb) (cq b)⟩
     |succ j=>exact b3.2 j c u (by simpa using hj) (by simpa using hu)
    ·cases hc with
     |head=>exact absurd hq id
     |tail _ hc=>exact b4 c hc q hq
   ·cases hx
  cases p with
  |int k n=>exact dX (.int k n) (by simp only[List.map_cons,St.imp,PC.er] at hx;exact hx) (by simp[PC.er]) (fun b hb=>by rcases hb with hb|⟨_,_,_,_,hb,_⟩<;>cases hb) (.int _ _)
  |bool b=>exact dX (.bool b) (by simp only[List.map_cons,St.imp,PC.er] at hx;exact hx) (by simp[PC.er]) (fun b hb=>by rcases hb with hb|⟨_,_,_,_,hb,_⟩<;>cases hb) (.bool _)
  |list sz x cap xs=>
   simp only[List.map_cons,PC.du,St.imp] at hx
   split at hx
   ·rename_i σ1 e1
    split at hx
    ·rename_i l' Cv fm e2
     injection hx with hx
     injection hx with h1 h2
     injection h2 with h2 h3
     subst h1 h2 h3
     obtain⟨hn,rfl⟩:=j8 e1
     obtain⟨g1,g2,g3⟩:=hi.dA (.list sz x cap xs) (by simp)
     obtain⟨G1,a1,a2,a3,a4⟩:=H.afe (m:=m) g1 g2 g3 (hi.lone (.list sz x cap xs) (by simp)) hn
     obtain⟨G',b1,b2,b3,b4,b5,b6,b7⟩:=HR.imp a1 e2 (hi.tail a4)
     have yZ:∀q,σ.used q=true->aq σ.used nm true q=true:=fun q hq=>oT _ _ hq
     refine⟨G',b1,aQ.trans yZ a2 b2,⟨by simp[b3.1],fun j c u hj hu=>?_⟩,fun c hc q hq=>?_,b5,fun q hq=>b6 q (yZ q hq),b7⟩
     ·cases j with
      |zero=>
       simp at hj hu;subst hj;subst hu
       exact⟨rfl,a3.eI b2 fun q hq=>by have dB:q=nm:=hq;subst dB;exact bu _ _ _⟩
      |succ j=>exact b3.2 j c u (by simpa using hj) (by simpa using hu)
     ·cases hc with
      |head=>have dB:q=nm:=hq;subst dB;exact b6 _ (bu _ _ _)
      |tail _ hc=>exact b4 c hc q hq
    ·cases hx
   ·cases hx
theorem HR.gH {m:Mode}:∀{aT:List (K×List PC)} {σ σ1:St} {G:Gh} {nm:Nat} {ls:List (Bool×List ae)},HR B E w G σ.h σ.used []->σ.gH m nm (aT.map fun p=>(p.1,p.2.map PC.er))=some (ls,σ1)->
  (∀p∈aT,p.1≠ .ptr/\(p.1=.one->p.2.length=1))->rN B w G σ.h (aT.flatMap (·.2))->
  ∃G',HR B E w G' σ1.h σ1.used []/\aQ w G σ.h (fun n=>σ.used n=true) w G' σ1.h/\ls.length=aT.length/\
   (∀(j:Nat) (x:Bool×List ae) (p:K×List PC),ls[j]? =some x->aT[j]? =some p->RV w G' σ1.h x.1 x.2 (oJ p))/\(∀x∈ls,∀c∈x.2,∀q,c.ref q->σ1.used q=true)/\σ1.env=σ.env/\
   (∀q,σ.used q=true->σ1.used q=true)
 |[],σ,σ1,G,nm,ls,H,hx,hk,hi=>by
  simp only[List.map_nil,St.gH] at hx
  injection hx with hx
  injection hx with h1 h2
  subst h1 h2
  exact⟨G,H,aQ.refl _ _ _ _,rfl,by simp,by simp,rfl,fun _ h=>h⟩
 |(k,ps)::aT,σ,σ2,G,nm,ls,H,hx,hk,hi=>by
  have yO:=hk (k,ps) (by simp)
  have gk:(match σ.imp m nm (ps.map PC.er) with
   |some (l,eP,σ1)=>match σ1.gH m eP (aT.map fun p=>(p.1,p.2.map PC.er)) with
    |some (ls,σ2)=>some ((decide (k=.agg),l)::ls,σ2)
    |none=>none
   |none=>none)=some (ls,σ2):=by
   cases k with
   |ptr=>exact absurd rfl yO.1
   |one=>simp[St.gH] at hx;exact hx
   |agg=>simp[St.gH] at hx;exact hx
  clear hx
  split at gk
  ·rename_i l eP σ1 e1
   split at gk
   ·rename_i wT fm e2
    injection gk with hx
    injection hx with h1 h2
    subst h1 h2
    obtain⟨G1,a1,a2,a3,a4,a5,a6,a7⟩:=HR.imp H e1 (by simpa using hi)
    obtain⟨G',b1,b2,b3,b4,b5,b6,b7⟩:=HR.gH a1 e2 (fun p hp=>hk p (by simp[hp])) a7
    refine⟨G',b1,aQ.trans a6 a2 b2,by simp[b3],fun j x p hj hp=>?_,fun x hx c hc q hq=>?_,b6.trans a5,fun q hq=>b7 q (a6 q hq)⟩
    ·cases j with
     |zero=>
      simp at hj hp;subst hj;subst hp
      have bq:=cL.eI b2 (fun c hc q hq=>a4 c hc q hq) a3
      cases k with
      |ptr=>exact absurd rfl yO.1
      |agg=>exact⟨ps.map PC.val,rfl,bq⟩
      |one=>
       have h1:=yO.2 rfl
       match ps,h1 with
       |[p],_=>exact bq
     |succ j=>exact b4 j x p (by simpa using hj) (by simpa using hp)
    ·cases hx with
     |head=>exact b7 q (a4 c hc q hq)
     |tail _ hx=>exact b5 x hx c hc q hq
   ·cases gk
  ·cases gk
theorem RA.iR {ls:List (Bool×List ae)} {aT:List (K×List PC)} (hlen:ls.length=aT.length) (hk:∀p∈aT,p.1≠ .ptr/\(p.1=.one->p.2.length=1))
  (hv:∀(j:Nat) (x:Bool×List ae) (p:K×List PC),ls[j]? =some x->aT[j]? =some p->RV w G h x.1 x.2 (oJ p)):RA w G h (iR ls) (sZ aT):=by
 match ls,aT,hlen with
 |[],[],_=>exact⟨[],rfl,rfl,by simp⟩
 |[(ag,cs)],[p],_=>
  have h0:=hv 0 (ag,cs) p rfl rfl
  cases ag with
  |true=>exact h0
  |false=>
   have bq:cL w G h cs [oJ p]:=h0
   match cs,bq.1 with
   |[c],_=>exact .inr h0
 |x::y::ls,p::q::aT,hl=>
  refine⟨(p::q::aT).map oJ,rfl,by simpa using hl.symm,fun j x' u hj hu=>?_⟩
  rw[List.getElem?_map] at hu
  cases hp:(p::q::aT)[j]? with
  |none=>rw[hp] at hu;cases hu
  |some p'=>rw[hp] at hu;simp at hu;subst hu;exact hv j x' p' hj hp
def vz (P:Program) (T:aA):Prop:=∀f M,aA.find T.pure f=some M->dO P f M
def ca (P:Program) (f:FuncId):Bool:=
 match P.funcs[f]? with
 |some fn=>fn.body.isSome&&(fn.name != "runtime.NumGoroutine")
 |none=>false
theorem s7 {f:FuncId} (hc:ca P f=true) (args:Array Value):(callFunc f args).run P w=.ok (.enter f args) w:=by
 unfold ca at hc
 split at hc
 ·rename_i fn hf
  simp only[Bool.and_eq_true,bne_iff_ne,ne_eq] at hc
  obtain⟨h1,h2⟩:=hc
  cases hb:fn.body with
  |none=>rw[hb] at h1;cases h1
  |some c=>simp[callFunc,hf,h2,hb]
 ·cases hc
theorem Fr.call (F:Fr B E w0 w) (F':Fr w.heap.size Ex.no w w'):Fr B E w0 w':=
 F.grow (fun b hb=>F'.block b hb id) F'.size F'.os F'.tape F'.output
theorem SJ (r:R B E w0 N σ a w G) {T:aA} (hT:vz P T) {m:Mode} {f:FuncId} {as:List ai} {vals:List Value} {σ1:St} (hN:∀n,o.dst=some n->n<N)
  (bH:(execOp a.eval o).run P w=.ok (.enter f vals.toArray) w) (hl:vals.length=as.length)
  (kI:∀(j:Nat) (x:ai) (v:Value),as[j]? =some x->vals[j]? =some v->RA w G σ.h x v)
  (hx:ph T m o.dst f as σ=some σ1):o.wp P a w (Nx B E w0 N σ1) Q:=by
 unfold ph at hx
 split at hx
 ·rename_i ds jZ
  split at hx
  ·rename_i M hM
   split at hx
   ·rename_i rs pM
    split at hx
    ·rename_i ls σ2 n8
     injection hx with hx
     subst hx
     have pC:=r.hr.jr jZ hl kI
     unfold Oper.wp
     rw[bH]
     refine(hT f M hM ds rs pM w vals pC).mono fun e w' ⟨aT,p1,p2,p3,p4,p5⟩=>?_
     subst p2
     have gh:∀b,b<w.heap.size->w'.heap[b]? =w.heap[b]? :=fun b hb=>p5.block b hb id
     have H':=r.hr.grow gh p5.size
     have fu:rN B w' G σ.h (aT.flatMap (·.2)):=by
      refine⟨p4.dA,fun pc bc b hb=>?_,?_⟩
      ·obtain⟨n1,n2⟩:=p4.new pc bc b hb
       refine⟨⟨fun hi=>?_,fun q hq iM he=>?_,fun q gr mo sz xs hq cz=>?_⟩,n2,Nat.le_trans r.fr.size n1⟩
       ·have:=r.hr.fv b hi;omega
       ·have:=(r.hr.own q hq iM).2.2;omega
       ·have:=r.hr.oK hq cz;omega
      ·rw[List.pairwise_iff_getElem]
       intro i j hi hj hZ b hb
       exact p4.lm i j _ _ b (by omega) (List.getElem?_eq_getElem hi) (List.getElem?_eq_getElem hj) hb
     rw[<-p1] at n8
     obtain⟨G',b1,b2,b3,b4,b5,b6,b7⟩:=HR.gH H' n8 p3 fu
     have K:aQ w G σ.h (fun n=>σ.used n=true) w' G' σ2.h:=aQ.trans (fun _ h=>h) (aQ.world (fun b hb=>gh b (r.hr.fv b hb)) _) b2
     have r2:R B E w0 N σ2 a w' G':=r.step b6 b7 K b1 (r.fr.call p5)
     refine⟨G',r2.put (RA.iR b3 p3 b4) ?_ hN⟩
     intro q hq
     match ls,hq with
     |[],hq=>obtain⟨x,hx,_⟩:=hq;simp at hx
     |[(true,cs)],hq=>obtain⟨c,hc,hq⟩:=hq;exact b5 (true,cs) (by simp) c hc q hq
     |[(false,[c])],hq=>exact b5 (false,[c]) (by simp) c (by simp) q hq
     |[(false,[])],hq=>exact absurd hq id
     |[(false,_::_::_)],hq=>exact absurd hq id
     |x::y::ls,hq=>obtain⟨x',gk,c,hc,hq⟩:=hq;exact b5 x' gk c hc q hq
    ·cases hx
   ·cases hx
  ·cases hx
 ·cases hx
theorem Jg:∀{aT:List (K×List PC)} {ls:List (Bool×List ae)},fO (aT.map fun p=>(p.1,p.2.map PC.er))=some ls->ls=aT.map fun p=>(decide (p.1=.agg),p.2.map fun pc=>ae.c pc.er)
 |[],ls,h=>by simp only[List.map_nil,fO] at h;injection h with h;exact h.symm
 |(k,ps)::aT,ls,h=>by
  cases k with
  |ptr=>simp[fO] at h
  |one=>
   simp only[List.map_cons,fO] at h
   split at h
   ·rename_i wT e
    injection h with h
    rw[<-h,Jg e,List.map_map]
    rfl
   ·cases h
  |agg=>
   simp only[List.map_cons,fO] at h
   split at h
   ·rename_i wT e
    injection h with h
    rw[<-h,Jg e,List.map_map]
    rfl
   ·cases h
theorem XX {ls:List (Bool×List ae)} {q:Nat} (cq:∀x∈ls,∀c∈x.2,¬c.ref q):¬(iR ls).ref q:=by
 intro hq
 match ls,hq with
 |[],hq=>obtain⟨x,hx,_⟩:=hq;simp at hx
 |[(true,cs)],hq=>obtain⟨c,hc,hq⟩:=hq;exact cq (true,cs) (by simp) c hc hq
 |[(false,[c])],hq=>exact cq (false,[c]) (by simp) c (by simp) hq
 |[(false,[])],hq=>exact hq
 |[(false,_::_::_)],hq=>exact hq
 |x::y::ls,hq=>obtain⟨x',gk,c,hc,hq⟩:=hq;exact cq x' gk c hc hq
theorem abz (r:R B E w0 N σ a w G) {T:aA} (hT:vz P T) {f:FuncId} {as:List ai} {vals:List Value} {z:ai} (hN:∀n,o.dst=some n->n<N)
  (bH:(execOp a.eval o).run P w=.ok (.enter f vals.toArray) w) (hl:vals.length=as.length)
  (kI:∀(j:Nat) (x:ai) (v:Value),as[j]? =some x->vals[j]? =some v->RA w G σ.h x v)
  (hx:rY T f as σ.h=some z):o.wp P a w (Nx B E w0 N (σ.put o.dst z)) Q:=by
 unfold rY at hx
 split at hx
 ·rename_i ds jZ
  split at hx
  ·rename_i M hM
   split at hx
   ·rename_i rs pM
    split at hx
    ·rename_i ls n8
     injection hx with hx
     subst hx
     have pC:=r.hr.jr jZ hl kI
     unfold Oper.wp
     rw[bH]
     refine(hT f M hM ds rs pM w vals pC).mono fun e w' ⟨aT,p1,p2,p3,p4,p5⟩=>?_
     subst p2
     have gh:∀b,b<w.heap.size->w'.heap[b]? =w.heap[b]? :=fun b hb=>p5.block b hb id
     have H':=r.hr.grow gh p5.size
     rw[<-p1] at n8
     have yP:=Jg n8
     subst yP
     let S:Nat->Prop:=fun b=>∃pc∈aT.flatMap (·.2),aM b pc
     have hS:∀b,S b->w.heap.size<=b/\b<w'.heap.size:=fun b ⟨pc,bc,hb⟩=>by
      obtain⟨n1,n2⟩:=p4.new pc bc b (.inl hb)
      exact⟨n1,n2.lt⟩
     have H2:HR B E w' ⟨fun b=>G.Im b\/S b,G.g⟩ σ.h σ.used []:=H'.ot S (fun b hb=>(hS b hb).2) (fun b hb n hn hl he=>by have:=(hS b hb).1;have:=(r.hr.own n hn hl).2.2;omega)
      (fun b hb n gr sz xs hn hF=>by have:=(hS b hb).1;have:=r.hr.oK hn hF;omega) (fun b hb=>.inl (Nat.le_trans r.fr.size (hS b hb).1))
     have K:aQ w G σ.h (fun n=>σ.used n=true) w' ⟨fun b=>G.Im b\/S b,G.g⟩ σ.h:=aQ.trans (fun _ h=>h) (aQ.world (fun b hb=>gh b (r.hr.fv b hb)) _) (aQ.ot S _)
     have r2:R B E w0 N σ a w' ⟨fun b=>G.Im b\/S b,G.g⟩:=r.step rfl (fun _ h=>h) K H2 (r.fr.call p5)
     have bq:∀p∈aT,cL w' ⟨fun b=>G.Im b\/S b,G.g⟩ σ.h (p.2.map fun pc=>ae.c pc.er) (p.2.map PC.val):=fun p hp=>by
      refine⟨by simp,fun j c u hj hu=>?_⟩
      rw[List.getElem?_map] at hj hu
      cases pK:p.2[j]? with
      |none=>rw[pK] at hj;cases hj
      |some pc=>
       rw[pK] at hj hu
       simp at hj hu
       subst hj hu
       have hm:pc∈aT.flatMap (·.2):=List.mem_flatMap.2 ⟨p,hp,List.mem_of_getElem? pK⟩
       exact⟨PC.jN pc,pc,rfl,rfl,(p4.dA pc hm).1,fun b hb=>.inr ⟨pc,hm,hb⟩⟩
     refine⟨_,r2.put (RA.iR (by simp) p3 (fun j x p hj hp=>?_)) (fun q hq=>?_) hN⟩
     ·rw[List.getElem?_map,hp] at hj
      simp at hj
      subst hj
      have h1:=bq p (List.mem_of_getElem? hp)
      obtain⟨k,ps⟩:=p
      have yO:=p3 (k,ps) (List.mem_of_getElem? hp)
      cases k with
      |ptr=>exact absurd rfl yO.1
      |agg=>exact⟨ps.map PC.val,rfl,h1⟩
      |one=>
       have h2:=yO.2 rfl
       match ps,h2 with
       |[p],_=>exact h1
     ·exfalso
      have cq:∀x∈aT.map (fun p=>(decide (p.1=Am.K.agg),p.2.map fun pc=>ae.c pc.er)),∀c∈x.2,¬c.ref q:=fun x hx c hc hq=>by
       obtain⟨p,_,rfl⟩:=List.mem_map.1 hx
       obtain⟨pc,_,rfl⟩:=List.mem_map.1 hc
       exact hq
      exact XX cq hq
    ·cases hx
   ·cases hx
  ·cases hx
 ·cases hx
def ff:List Operand->List MO->Bool
 |[],[]=>true
 |x::xs,m::ms=>bi x m&&ff xs ms
 |_,_=>false
theorem R.sb (r:R B E w0 N σ a w G):∀{xs:List Operand} {ms:List MO},ff xs ms=true->xs.length=ms.length/\
  ∀(j:Nat) (x:ai) (v:Value),(ms.map σ.ev)[j]? =some x->(xs.map a.eval)[j]? =some v->RA w G σ.h x v
 |[],[],_=>⟨rfl,by simp⟩
 |x::xs,m::ms,hc=>by
  simp only[ff,Bool.and_eq_true] at hc
  obtain⟨i1,i2⟩:=r.sb hc.2
  refine⟨by simp[i1],fun j x' v hj hv=>?_⟩
  cases j with
  |zero=>simp at hj hv;subst hj;subst hv;exact(r.ev hc.1).1
  |succ j=>exact i2 j x' v (by simpa using hj) (by simpa using hv)
 |[],_::_,hc=>by simp[ff] at hc
 |_::_,[],hc=>by simp[ff] at hc
theorem abn (r:R B E w0 N σ a w G) {T:aA} (hT:vz P T) {m:Mode} {f:FuncId} {xs:Array Operand} {ms:List MO} {ts:Array TypeId} {σ1:St} (hN:∀n,o.dst=some n->n<N)
  (ho:o.op=.call {callee:=.value (.func f),args:=xs,argTypes:=ts}) (hf:ca P f=true) (hm:ff xs.toList ms=true)
  (hx:ph T m o.dst f (ms.map σ.ev) σ=some σ1):o.wp P a w (Nx B E w0 N σ1) Q:=by
 obtain⟨e1,e2⟩:=r.sb hm
 refine SJ r hT (vals:=xs.toList.map a.eval) hN ?_ (by simpa using e1) e2 hx
 have he:(xs.toList.map a.eval).toArray=xs.map a.eval:=by apply Array.ext';simp
 rw[he]
 simp[execOp,ho,resolve,Deferred.ofValue,invoke,Act.eval,s7 hf]
theorem abo (r:R B E w0 N σ a w G) {T:aA} (hT:vz P T) {f:FuncId} {xs:Array Operand} {ms:List MO} {ts:Array TypeId} {z:ai} (hN:∀n,o.dst=some n->n<N)
  (ho:o.op=.call {callee:=.value (.func f),args:=xs,argTypes:=ts}) (hf:ca P f=true) (hm:ff xs.toList ms=true)
  (hx:rY T f (ms.map σ.ev) σ.h=some z):o.wp P a w (Nx B E w0 N (σ.put o.dst z)) Q:=by
 obtain⟨e1,e2⟩:=r.sb hm
 refine abz r hT (vals:=xs.toList.map a.eval) hN ?_ (by simpa using e1) e2 hx
 have he:(xs.toList.map a.eval).toArray=xs.map a.eval:=by apply Array.ext';simp
 rw[he]
 simp[execOp,ho,resolve,Deferred.ofValue,invoke,Act.eval,s7 hf]
theorem abq (r:R B E w0 N σ a w G) {T:aA} (hT:vz P T) {m:Mode} {f:FuncId} {x:Operand} {mx:MO} {bM:List ae} {xs:Array Operand} {ms:List MO} {ts:Array TypeId} {σ1:St} (hN:∀n,o.dst=some n->n<N)
  (ho:o.op=.call {callee:=.value x,args:=xs,argTypes:=ts}) (hf:ca P f=true) (BO:bi x mx=true) (hm:ff xs.toList ms=true) (he:σ.ev mx=.one (.fn f bM))
  (hx:ph T m o.dst f (ms.map σ.ev++bM.map .one) σ=some σ1):o.wp P a w (Nx B E w0 N σ1) Q:=by
 obtain⟨e1,e2⟩:=r.sb hm
 obtain⟨x1,x2⟩:=r.ev BO
 rw[he] at x1
 obtain⟨vs,v1,v2,v3⟩:=(x1.eB (by simp)).1
 refine SJ r hT (vals:=xs.toList.map a.eval++vs) hN ?_ (by simp[e1,v2]) (fun j y v hj hv=>?_) hx
 ·have pE:(xs.toList.map a.eval++vs).toArray=xs.map a.eval++vs.toArray:=by apply Array.ext';simp
  rw[pE]
  simp[execOp,ho,resolve,v1,Deferred.ofValue,invoke,s7 hf]
 ·have ym:xs.size=ms.length:=by simpa using e1
  by_cases bB:j<ms.length
  ·rw[List.getElem?_append_left (by simpa using bB)] at hj
   rw[List.getElem?_append_left (by simp;omega)] at hv
   exact e2 j y v hj hv
  ·rw[List.getElem?_append_right (by simp;omega)] at hj
   rw[List.getElem?_append_right (by simp;omega)] at hv
   simp only[List.length_map,<-e1] at hj hv
   rw[List.getElem?_map] at hj
   simp only[e1] at hj hv
   cases hc:bM[j - ms.length]? with
   |none=>rw[hc] at hj;cases hj
   |some c=>
    rw[hc] at hj
    simp at hj
    subst hj
    obtain⟨q1,q2⟩:=v3 _ c v hc hv
    refine RA.fi q1 ?_
    by_cases qN:c.iO=false
    ·rw[rR _ _ _ _ _ qN];exact q2
    ·cases c<;>first|exact q2.elim|(simp[ae.iO] at qN)
end
end Go.Am
