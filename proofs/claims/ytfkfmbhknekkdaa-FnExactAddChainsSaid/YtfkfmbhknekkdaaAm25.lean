/- Am25: what a function returns. No condition. -/
import Derived.Test.YtfkfmbhknekkdaaAm24
set_option linter.unusedVariables false
namespace Go.Am
inductive cD where
 |tmp (t:Nat)
 |cell (t sz:Nat) (ag:Bool)
def lW (P:Program):List ResultVar->List cD->Bool
 |[],[]=>true
 |.tmp t::rs,.tmp t'::ms=>(t==t')&&lW P rs ms
 |.cell a ty::rs,.cell a' sz ag::ms=>(a==a')&&nP P ty ag sz&&lW P rs ms
 |_,_=>false
def St.ry (σ:St):List cD->Option (List ai)
 |[]=>some []
 |.tmp t::ms=>match σ.ry ms with
  |some vs=>some (σ.env t::vs)
  |none=>none
 |.cell t sz ag::ms=>match σ.env t with
  |.one p=>match loadAt σ.h p sz,σ.ry ms with
   |some cs,some vs=>some (jL ag cs::vs)
   |_,_=>none
  |_=>none
def jn (h:Nat->Option ak):ae->Option (C×List Nat)
 |.c x=>if x.dX=true then some (x,[]) else none
 |.nil sz=>if 0<sz then some (.list sz [],[]) else none
 |.sl n sz 0 len=>match h n with
  |some (.row true m rs xs)=>if rs=sz/\m≠ .aF/\len<=xs.length then some (.list sz (xs.take len),[n]) else none
  |_=>none
 |_=>none
def rA (h:Nat->Option ak):List ae->Option (List C×List Nat)
 |[]=>some ([],[])
 |c::cs=>match jn h c,rA h cs with
  |some (x,ns),some (xs,iQ)=>some (x::xs,ns++iQ)
  |_,_=>none
def oI (h:Nat->Option ak):List ai->Option (List Dv×List Nat)
 |[]=>some ([],[])
 |v::vs=>match v.cells? with
  |some (ag,cs)=>match rA h cs,oI h vs with
   |some (xs,ns),some (ds,iQ)=>some ((if ag=true then(K.agg,xs) else(K.one,xs))::ds,ns++iQ)
   |_,_=>none
  |none=>none
def St.rz (σ:St) (ms:List cD):Option (List Dv):=
 match σ.ry ms with
 |some vs=>match oI σ.h vs with
  |some (ds,ns)=>if ns.Nodup then some ds else none
  |none=>none
 |none=>none
section
variable {B:Nat} {E:Ex} {w0 w w':World} {G G':Gh} {N:Nat} {h h':Nat->Option ak} {used:Nat->Bool}
variable {P:Program} {T:aA} {a:Act} {σ σ':St}
def lp (G:Gh) (n b:Nat):Prop:=((G.g n).nl=false/\b=(G.g n).b)\/aN b (G.g n).px
theorem HR.Tq (H:HR B E w G h used []) {n n':Nat} (av:n≠n') {gr aU:Bool} {m m':Mode} {sz aC:Nat} {xs ao:List (List C)} (h1:h n=some (.row gr m sz xs)) (h2:h n'=some (.row aU m' aC ao))
  (hm:m≠ .aF) (bx:m'≠ .aF) {b:Nat} (hb:lp G n b):¬lp G n' b:=by
 have e1:h n≠none:=by rw[h1];simp
 have e2:h n'≠none:=by rw[h2];simp
 have own:∀{p q:Nat} {gr:Bool} {m:Mode} {sz:Nat} {xs:List (List C)},h p≠none->h q=some (.row gr m sz xs)->m≠ .aF->(G.g p).nl=false->¬aN (G.g p).b (G.g q).px:=by
  intro p q gr m sz xs hp hq hm hl hF
  have gj:=(H.row q gr m sz xs hq).mode
  cases m with
  |aF=>exact hm rfl
  |aj=>exact(H.own p hp hl).1 (gj.1 _ hF).1
  |live=>exact H.live q gr sz xs hq _ hF p hp hl rfl
 rintro(⟨l2,rfl⟩|b2)
 ·rcases hb with⟨l1,b1⟩|b1
  ·exact H.inj n n' e1 e2 av l1 l2 b1.symm
  ·exact own e2 h1 hm l2 b1
 ·rcases hb with⟨l1,rfl⟩|b1
  ·exact own e1 h2 bx l1 b2
  ·exact H.fg n n' gr m sz xs aU m' aC ao h1 h2 hm bx av b b1 b2
structure QM (B:Nat) (w:World) (G:Gh) (h:Nat->Option ak) (ns:List Nat) (pc:PC):Prop where
 dA:Good w pc/\Sep pc/\AH w pc
 new:∀b,il b pc->(B<=b/\dm w b)/\∃n∈ns,lp G n b
def rQ (h:Nat->Option ak) (ns:List Nat):Prop:=∀n∈ns,∃gr m sz xs,h n=some (.row gr m sz xs)/\m≠ .aF
theorem HR.jn (H:HR B Ex.no w G h used []) {c:ae} {x:C} {ns:List Nat} {v:Value} (hx:jn h c=some (x,ns)) (hc:RC w G h c v):
  ∃pc:PC,pc.er=x/\pc.val=v/\QM B w G h ns pc/\rQ h ns:=by
 have noT:∀pc:PC,(∀sz a cap xs,pc≠ .list sz a cap xs)->∀b,¬il b pc:=by
  intro pc hp b hb
  rcases hb with hb|⟨sz,o,cap,xs,rfl,_⟩
  ·cases hb with
   |here sz o cap xs h=>exact hp _ _ _ _ rfl
   |there sz a cap xs k j c h1 h2=>exact hp _ _ _ _ rfl
  ·exact hp _ _ _ _ rfl
 cases c with
 |c y=>
  simp only[Am.jn] at hx
  split at hx
  ·rename_i hs
   injection hx with hx
   injection hx with h1 h2
   subst h1 h2
   obtain⟨pc,p1,p2,p3,p4⟩:=hc
   have cq:∀b,¬il b pc:=noT pc (by rintro sz a cap xs rfl;rw[<-p1] at hs;simp[PC.du,C.dX] at hs)
   have yY:AH w pc:=by
    cases pc with
    |list sz a cap xs=>rw[<-p1] at hs;simp[PC.du,C.dX] at hs
    |_=>trivial
   exact⟨pc,p1,p2,⟨⟨p3,(Sep.jI (by rw[p1];exact hs)).1,yY⟩,fun b hb=>absurd hb (cq b)⟩,fun n hn=>by simp at hn⟩
  ·cases hx
 |nil sz=>
  simp only[Am.jn] at hx
  split at hx
  ·rename_i dU
   injection hx with hx
   injection hx with h1 h2
   subst h1 h2
   have cN:v=.slice none 0 0:=hc
   subst cN
   have je:Sep (.list sz none 0 []):=by
    refine .list _ _ _ _ ?_ ?_ ?_
    ·rintro k j c ⟨e,he,_⟩;simp at he
    ·rintro b o k j c _ ⟨e,he,_⟩;simp at he
    ·rintro k j c k' j' c' b ⟨e,he,_⟩;simp at he
   refine⟨.list sz none 0 [],by simp[PC.du],rfl,⟨⟨.nil _ _ _ dU,je,dU,by simp,.inl rfl⟩,fun b hb=>?_⟩,fun n hn=>by simp at hn⟩
   rcases hb with hb|⟨_,_,_,_,hb,sr⟩
   ·rw[aM.jk] at hb
    rcases hb with⟨hb,_⟩|⟨k,j,c,⟨e,he,_⟩,_⟩
    ·exact absurd rfl hb
    ·simp at he
   ·cases hb
  ·cases hx
 |sl n sz lo len=>
  cases lo with
  |succ lo=>simp[Am.jn] at hx
  |zero=>
   simp only[Am.jn] at hx
   split at hx
   ·rename_i m rs xs hn
    split at hx
    ·rename_i cm
     obtain⟨rfl,hm,hl⟩:=cm
     injection hx with hx
     injection hx with h1 h2
     subst h1 h2
     have bJ:h n≠none:=by rw[hn];simp
     have hr:=H.row n true m rs xs hn
     have hs:gy (G.g n) rs 0 len v:=hc bJ
     obtain⟨a1,a2,a3,a4⟩:=CU hr hs (by omega)
     have pJ:(∀b,aN b (G.g n).px->dm w b/\B<=b)/\gx (G.g n).px/\(∀b,aN b (G.g n).px->(G.g n).nl=false->b≠(G.g n).b):=by
      have cU:=hr.mode
      cases m with
      |aF=>exact absurd rfl hm
      |aj=>exact⟨fun b hb=>⟨(cU.1 b hb).2.1,(cU.1 b hb).2.2.resolve_right id⟩,cU.2,fun b hb hl dM=>(H.own n bJ hl).1 (dM▸(cU.1 b hb).1)⟩
      |live=>exact⟨fun b hb=>⟨(cU.1 b hb).2.1,(cU.1 b hb).2.2.resolve_right id⟩,cU.2,fun b hb hl=>H.live n true rs xs hn b hb n bJ hl⟩
     obtain⟨o1,o2,o3⟩:=pJ
     refine⟨jp (G.g n) rs 0 len v,by simpa using a1,a2,?_,fun q hq=>?_⟩
     ·rcases hs with⟨aE,rfl,_,rfl⟩|⟨aE,Z2,rfl,hH,had⟩
      ·simp only[jp] at a3⊢
       have hz:(List.take 0 (List.drop 0 (G.g n).px))=[]:=by simp
       have tF:=(hr.nl aE).2 rfl
       rw[hz,tF] at a3⊢
       have je:Sep (.list rs (G.g n).na 0 []):=by
        refine .list _ _ _ _ ?_ ?_ ?_
        ·rintro k j c ⟨e,he,_⟩;simp at he
        ·rintro b o k j c _ ⟨e,he,_⟩;simp at he
        ·rintro k j c k' j' c' b ⟨e,he,_⟩;simp at he
       refine⟨⟨a3,je,hr.pos,by simp,.inl rfl⟩,fun b hb=>?_⟩
       rcases hb with hb|⟨_,_,_,_,hb,sr⟩
       ·rw[aM.jk] at hb
        rcases hb with⟨hb,_⟩|⟨k,j,c,⟨e,he,_⟩,_⟩
        ·exact absurd rfl hb
        ·simp at he
       ·injection hb with _ _ hb _;exact absurd hb.symm sr
      ·obtain⟨r2,cur,e,r3,r4⟩:=hr.room aE rfl
       have e0:=had (.inr rfl)
       have e0':Z2=some (ad (G.g n).b (G.g n).o):=by rw[e0];simp
       subst e0'
       simp only[jp,Nat.sub_zero] at a3 a4⊢
       have BU:=o2.sub 0 len
       have eA:∀k j c,At ((List.drop 0 (G.g n).px).take len) k j c->At (G.g n).px k j c:=fun k j c hk=>by have:=(mU hk).1;simpa using this
       refine⟨⟨a3,.list _ _ _ _ BU.1 (fun b o k j c d8 hk hb=>?_) BU.2,hr.pos,by simp;omega,.inr ⟨_,_,cur,e,rfl,r3,r4,r2,fun k j c hk hb=>?_⟩⟩,fun b hb=>?_⟩
       ·injection d8 with d8
        exact o3 b ⟨_,_,_,eA _ _ _ hk,hb⟩ aE (lg d8).1.symm
       ·exact o3 _ ⟨_,_,_,eA _ _ _ hk,hb⟩ aE rfl
       ·have hf:lp G n b:=by
         rcases hb with hb|⟨_,_,_,_,hb,sr⟩
         ·exact a4 b hb
         ·injection hb with _ hb _ _
          injection hb with hb
          exact .inl ⟨aE,(lg hb).1.symm⟩
        refine⟨?_,n,by simp,hf⟩
        rcases hf with⟨_,rfl⟩|hF
        ·exact⟨((H.own n bJ aE).2.1).resolve_right id,(hr.dv aE).1⟩
        ·exact⟨(o1 b hF).2,(o1 b hF).1⟩
     ·simp at hq
      subst hq
      exact⟨_,_,_,_,hn,hm⟩
    ·cases hx
   ·cases hx
 |ptr _ _ _ _=>simp[Am.jn] at hx
 |bV _ _=>simp[Am.jn] at hx
 |bD _ _ _ _ _ _=>simp[Am.jn] at hx
 |bj _ _ _ _ _ _=>simp[Am.jn] at hx
 |fn _ _=>simp[Am.jn] at hx
 |cH _ _ _ _ _ _=>simp[Am.jn] at hx
 |bg=>simp[Am.jn] at hx
structure qv (B:Nat) (w:World) (G:Gh) (h:Nat->Option ak) (ns:List Nat) (ps:List PC):Prop where
 each:∀pc∈ps,QM B w G h ns pc
 lm:ns.Nodup->ps.Pairwise fun p q=>∀b,il b p->¬il b q
theorem qv.append (H:HR B Ex.no w G h used []) {ns iQ:List Nat} {ps XD:List PC} (h1:qv B w G h ns ps) (h2:qv B w G h iQ XD) (n1:rQ h ns) (n2:rQ h iQ):qv B w G h (ns++iQ) (ps++XD):=by
 refine⟨fun pc bc=>?_,fun hd=>?_⟩
 ·rcases List.mem_append.1 bc with hp|hp
  ·obtain⟨g,n⟩:=h1.each pc hp
   exact⟨g,fun b hb=>⟨(n b hb).1,by obtain⟨k,hk,hf⟩:=(n b hb).2;exact⟨k,by simp[hk],hf⟩⟩⟩
  ·obtain⟨g,n⟩:=h2.each pc hp
   exact⟨g,fun b hb=>⟨(n b hb).1,by obtain⟨k,hk,hf⟩:=(n b hb).2;exact⟨k,by simp[hk],hf⟩⟩⟩
 ·rw[List.nodup_append] at hd
  rw[List.pairwise_append]
  refine⟨h1.lm hd.1,h2.lm hd.2.1,fun p hp q hq b hb aL=>?_⟩
  obtain⟨k,hk,hf⟩:=((h1.each p hp).new b hb).2
  obtain⟨k',cC,jc⟩:=((h2.each q hq).new b aL).2
  obtain⟨_,_,_,_,e1,m1⟩:=n1 k hk
  obtain⟨_,_,_,_,e2,m2⟩:=n2 k' cC
  exact H.Tq (hd.2.2 k hk k' cC) e1 e2 m1 m2 hf jc
theorem rQ.append {ns iQ:List Nat} (h1:rQ h ns) (h2:rQ h iQ):rQ h (ns++iQ):=fun n hn=>(List.mem_append.1 hn).elim (h1 n) (h2 n)
theorem HR.rA (H:HR B Ex.no w G h used []):∀{cs:List ae} {xs:List C} {ns:List Nat} {vs:List Value},rA h cs=some (xs,ns)->cL w G h cs vs->
  ∃bk:List PC,bk.map PC.er=xs/\bk.map PC.val=vs/\qv B w G h ns bk/\rQ h ns
 |[],xs,ns,vs,hx,hc=>by
  simp only[Am.rA] at hx
  injection hx with hx
  injection hx with h1 h2
  subst h1 h2
  have:vs=[]:=List.eq_nil_of_length_eq_zero (by simpa using hc.1)
  subst this
  exact⟨[],rfl,rfl,⟨by simp,fun _=>List.Pairwise.nil⟩,fun n hn=>by simp at hn⟩
 |c::cs,xs,ns,vs,hx,hc=>by
  simp only[Am.rA] at hx
  split at hx
  ·rename_i x Xi ao Xj e1 e2
   injection hx with hx
   injection hx with h1 h2
   subst h1 h2
   obtain⟨hlen,bK⟩:=hc
   match vs,hlen with
   |v::vs,hlen=>
    obtain⟨pc,a1,a2,a3,a4⟩:=H.jn e1 (bK 0 c v rfl rfl).2
    obtain⟨bk,b1,b2,b3,b4⟩:=H.rA e2 (cs:=cs) (vs:=vs) ⟨by simpa using hlen,fun j c u h1 h2=>bK (j+1) c u h1 h2⟩
    have BR:qv B w G h Xi [pc]:=⟨fun q hq=>by simp at hq;subst hq;exact a3,fun _=>by simp⟩
    exact⟨pc::bk,by simp[a1,b1],by simp[a2,b2],qv.append H BR b3 a4 b4,a4.append b4⟩
  ·cases hx
theorem HR.oI (H:HR B Ex.no w G h used []):∀{xs:List ai} {ds:List Dv} {ns:List Nat} {vs:List Value},oI h xs=some (ds,ns)->vs.length=xs.length->
  (∀(j:Nat) (x:ai) (v:Value),xs[j]? =some x->vs[j]? =some v->RA w G h x v)->
  ∃aT:List (K×List PC),aT.map (fun p=>(p.1,p.2.map PC.er))=ds/\aT.map oJ=vs/\(∀p∈aT,p.1≠ .ptr/\(p.1=.one->p.2.length=1))/\qv B w G h ns (aT.flatMap (·.2))/\rQ h ns
 |[],ds,ns,vs,hx,hl,hc=>by
  simp only[Am.oI] at hx
  injection hx with hx
  injection hx with h1 h2
  subst h1 h2
  have:vs=[]:=List.eq_nil_of_length_eq_zero (by simpa using hl)
  subst this
  exact⟨[],rfl,rfl,by simp,⟨by simp,fun _=>List.Pairwise.nil⟩,fun n hn=>by simp at hn⟩
 |x::xs,ds,ns,vs,hx,hl,hc=>by
  simp only[Am.oI] at hx
  split at hx
  ·rename_i ag cs pj
   split at hx
   ·rename_i ys Xi r9 Xj e1 e2
    injection hx with hx
    injection hx with h1 h2
    subst h1 h2
    match vs,hl with
    |v::vs,hl=>
     obtain⟨bk,a1,a2,a3,a4⟩:=H.rA e1 ((hc 0 x v rfl rfl).cells pj)
     obtain⟨aT,b1,b2,b3,b4,b5⟩:=H.oI e2 (xs:=xs) (vs:=vs) (by simpa using hl) (fun j x v h1 h2=>hc (j+1) x v h1 h2)
     have Bq:=hc 0 x v rfl rfl
     cases ag with
     |true=>
      have hv:oJ (K.agg,bk)=v:=by
       cases x with
       |one c=>cases c<;>simp[ai.cells?] at pj
       |agg cs'=>
        obtain⟨us,e,_⟩:∃us:List Value,v=.agg us.toArray/\cL w G h cs' us:=Bq
        subst e
        simp only[oJ,a2]
        simp[Value.cells]
       |aY l=>simp[ai.cells?] at pj
      refine⟨(K.agg,bk)::aT,by simp[a1,b1],by simp[hv,b2],fun p hp=>?_,?_,a4.append b5⟩
      ·cases hp with
       |head=>exact⟨by simp,fun e=>by cases e⟩
       |tail _ hp=>exact b3 p hp
      ·simpa using qv.append H a3 b4 a4 b5
     |false=>
      have Bz:∃c,x=.one c/\cs=[c]:=by
       cases x with
       |one c=>cases c<;>simp[ai.cells?] at pj<;>exact⟨_,rfl,pj.symm⟩
       |agg cs'=>simp[ai.cells?] at pj
       |aY l=>simp[ai.cells?] at pj
      obtain⟨c,rfl,rfl⟩:=Bz
      have eE:c≠ .bg:=by rintro rfl;simp[ai.cells?] at pj
      have h1c:=(Bq.eB eE).2
      have wb:v.cells.toList=[v]:=by cases v<;>first|rfl|(simp[Value.oneCell'] at h1c)
      rw[wb] at a2
      match bk,a2 with
      |[pc],a2=>
       have hv:oJ (K.one,[pc])=v:=by simpa[oJ] using a2
       refine⟨(K.one,[pc])::aT,by simp[<-a1,b1],by simp[hv,b2],fun p hp=>?_,?_,a4.append b5⟩
       ·cases hp with
        |head=>exact⟨by simp,fun _=>rfl⟩
        |tail _ hp=>exact b3 p hp
       ·simpa using qv.append H a3 b4 a4 b5
   ·cases hx
  ·cases hx
end
end Go.Am
