/- Am25: what a function returns. No condition. -/
import Derived.Test.YtbgmbplglejidaaAm24
set_option linter.unusedVariables false
namespace Go.Am
inductive bh where
 |tmp (t:Nat)
 |cell (t sz:Nat) (ag:Bool)
def mZ (P:Program):List ResultVar->List bh->Bool
 |[],[]=>true
 |.tmp t::rs,.tmp t'::ms=>(t==t')&&mZ P rs ms
 |.cell a ty::rs,.cell a' sz ag::ms=>(a==a')&&pM P ty ag sz&&mZ P rs ms
 |_,_=>false
def St.rT (σ:St):List bh->Option (List aj)
 |[]=>some []
 |.tmp t::ms=>match σ.rT ms with
  |some vs=>some (σ.env t::vs)
  |none=>none
 |.cell t sz ag::ms=>match σ.env t with
  |.one p=>match loadAt σ.h p sz,σ.rT ms with
   |some cs,some vs=>some (kZ ag cs::vs)
   |_,_=>none
  |_=>none
def kR (h:Nat->Option aq):ah->Option (C×List Nat)
 |.c x=>if x.eF=true then some (x,[]) else none
 |.nil sz=>if 0<sz then some (.list sz [],[]) else none
 |.sl n sz 0 len=>match h n with
  |some (.row true m rs xs)=>if rs=sz/\m≠ .aO/\len<=xs.length then some (.list sz (xs.take len),[n]) else none
  |_=>none
 |_=>none
def tr (h:Nat->Option aq):List ah->Option (List C×List Nat)
 |[]=>some ([],[])
 |c::cs=>match kR h c,tr h cs with
  |some (x,ns),some (xs,jX)=>some (x::xs,ns++jX)
  |_,_=>none
def qJ (h:Nat->Option aq):List aj->Option (List Dv×List Nat)
 |[]=>some ([],[])
 |v::vs=>match v.cells? with
  |some (ag,cs)=>match tr h cs,qJ h vs with
   |some (xs,ns),some (ds,jX)=>some ((if ag=true then(K.agg,xs) else(K.one,xs))::ds,ns++jX)
   |_,_=>none
  |none=>none
def St.tq (σ:St) (ms:List bh):Option (List Dv):=
 match σ.rT ms with
 |some vs=>match qJ σ.h vs with
  |some (ds,ns)=>if ns.Nodup then some ds else none
  |none=>none
 |none=>none
section
variable {B:Nat} {E:Ex} {w0 w w':World} {G G':Gh} {N:Nat} {h h':Nat->Option aq} {used:Nat->Bool}
variable {P:Program} {T:aS} {a:Act} {σ σ':St}
def m5 (G:Gh) (n b:Nat):Prop:=((G.g n).nl=false/\b=(G.g n).b)\/aX b (G.g n).px
theorem HR.Za (H:HR B E w G h used []) {n n':Nat} (aE:n≠n') {gr bj:Bool} {m m':Mode} {sz aL:Nat} {xs ar:List (List C)} (h1:h n=some (.row gr m sz xs)) (h2:h n'=some (.row bj m' aL ar))
  (hm:m≠ .aO) (bI:m'≠ .aO) {b:Nat} (hb:m5 G n b):¬m5 G n' b:=by
 have e1:h n≠none:=by rw[h1];simp
 have e2:h n'≠none:=by rw[h2];simp
 have own:∀{p q:Nat} {gr:Bool} {m:Mode} {sz:Nat} {xs:List (List C)},h p≠none->h q=some (.row gr m sz xs)->m≠ .aO->(G.g p).nl=false->¬aX (G.g p).b (G.g q).px:=by
  intro p q gr m sz xs hp hq hm hl hF
  have fS:=(H.row q gr m sz xs hq).mode
  cases m with
  |aO=>exact hm rfl
  |ab=>exact(H.own p hp hl).1 (fS.1 _ hF).1
  |live=>exact H.live q gr sz xs hq _ hF p hp hl rfl
 rintro(⟨l2,rfl⟩|b2)
 ·rcases hb with⟨l1,b1⟩|b1
  ·exact H.inj n n' e1 e2 aE l1 l2 b1.symm
  ·exact own e2 h1 hm l2 b1
 ·rcases hb with⟨l1,rfl⟩|b1
  ·exact own e1 h2 bI l1 b2
  ·exact H.fA n n' gr m sz xs bj m' aL ar h1 h2 hm bI aE b b1 b2
structure WS (B:Nat) (w:World) (G:Gh) (h:Nat->Option aq) (ns:List Nat) (pc:PC):Prop where
 dH:Good w pc/\Sep pc/\CS w pc
 new:∀b,iR b pc->(B<=b/\dD w b)/\∃n∈ns,m5 G n b
def tI (h:Nat->Option aq) (ns:List Nat):Prop:=∀n∈ns,∃gr m sz xs,h n=some (.row gr m sz xs)/\m≠ .aO
theorem HR.kR (H:HR B Ex.no w G h used []) {c:ah} {x:C} {ns:List Nat} {v:Value} (hx:kR h c=some (x,ns)) (hc:RC w G h c v):
  ∃pc:PC,pc.er=x/\pc.val=v/\WS B w G h ns pc/\tI h ns:=by
 have noT:∀pc:PC,(∀sz a cap xs,pc≠ .list sz a cap xs)->∀b,¬iR b pc:=by
  intro pc hp b hb
  rcases hb with hb|⟨sz,o,cap,xs,rfl,_⟩
  ·cases hb with
   |here sz o cap xs h=>exact hp _ _ _ _ rfl
   |there sz a cap xs k j c h1 h2=>exact hp _ _ _ _ rfl
  ·exact hp _ _ _ _ rfl
 cases c with
 |c y=>
  simp only[Am.kR] at hx
  split at hx
  ·rename_i hs
   injection hx with hx
   injection hx with h1 h2
   subst h1 h2
   obtain⟨pc,p1,p2,p3,p4⟩:=hc
   have bS:∀b,¬iR b pc:=noT pc (by rintro sz a cap xs rfl;rw[<-p1] at hs;simp[PC.dG,C.eF] at hs)
   have uE:CS w pc:=by
    cases pc with
    |list sz a cap xs=>rw[<-p1] at hs;simp[PC.dG,C.eF] at hs
    |_=>trivial
   exact⟨pc,p1,p2,⟨⟨p3,(Sep.kP (by rw[p1];exact hs)).1,uE⟩,fun b hb=>absurd hb (bS b)⟩,fun n hn=>by simp at hn⟩
  ·cases hx
 |nil sz=>
  simp only[Am.kR] at hx
  split at hx
  ·rename_i ed
   injection hx with hx
   injection hx with h1 h2
   subst h1 h2
   have cO:v=.slice none 0 0:=hc
   subst cO
   have kf:Sep (.list sz none 0 []):=by
    refine .list _ _ _ _ ?_ ?_ ?_
    ·rintro k j c ⟨e,he,_⟩;simp at he
    ·rintro b o k j c _ ⟨e,he,_⟩;simp at he
    ·rintro k j c k' j' c' b ⟨e,he,_⟩;simp at he
   refine⟨.list sz none 0 [],by simp[PC.dG],rfl,⟨⟨.nil _ _ _ ed,kf,ed,by simp,.inl rfl⟩,fun b hb=>?_⟩,fun n hn=>by simp at hn⟩
   rcases hb with hb|⟨_,_,_,_,hb,uk⟩
   ·rw[aT.ko] at hb
    rcases hb with⟨hb,_⟩|⟨k,j,c,⟨e,he,_⟩,_⟩
    ·exact absurd rfl hb
    ·simp at he
   ·cases hb
  ·cases hx
 |sl n sz lo len=>
  cases lo with
  |succ lo=>simp[Am.kR] at hx
  |zero=>
   simp only[Am.kR] at hx
   split at hx
   ·rename_i m rs xs hn
    split at hx
    ·rename_i cF
     obtain⟨rfl,hm,hl⟩:=cF
     injection hx with hx
     injection hx with h1 h2
     subst h1 h2
     have bJ:h n≠none:=by rw[hn];simp
     have hr:=H.row n true m rs xs hn
     have hs:jg (G.g n) rs 0 len v:=hc bJ
     obtain⟨a1,a2,a3,a4⟩:=Fc hr hs (by omega)
     have rB:(∀b,aX b (G.g n).px->dD w b/\B<=b)/\ig (G.g n).px/\(∀b,aX b (G.g n).px->(G.g n).nl=false->b≠(G.g n).b):=by
      have dg:=hr.mode
      cases m with
      |aO=>exact absurd rfl hm
      |ab=>exact⟨fun b hb=>⟨(dg.1 b hb).2.1,(dg.1 b hb).2.2.resolve_right id⟩,dg.2,fun b hb hl dI=>(H.own n bJ hl).1 (dI▸(dg.1 b hb).1)⟩
      |live=>exact⟨fun b hb=>⟨(dg.1 b hb).2.1,(dg.1 b hb).2.2.resolve_right id⟩,dg.2,fun b hb hl=>H.live n true rs xs hn b hb n bJ hl⟩
     obtain⟨o1,o2,o3⟩:=rB
     refine⟨ku (G.g n) rs 0 len v,by simpa using a1,a2,?_,fun q hq=>?_⟩
     ·rcases hs with⟨aR,rfl,_,rfl⟩|⟨aR,ad',rfl,jk,had⟩
      ·simp only[ku] at a3⊢
       have hz:(List.take 0 (List.drop 0 (G.g n).px))=[]:=by simp
       have vJ:=(hr.nl aR).2 rfl
       rw[hz,vJ] at a3⊢
       have kf:Sep (.list rs (G.g n).na 0 []):=by
        refine .list _ _ _ _ ?_ ?_ ?_
        ·rintro k j c ⟨e,he,_⟩;simp at he
        ·rintro b o k j c _ ⟨e,he,_⟩;simp at he
        ·rintro k j c k' j' c' b ⟨e,he,_⟩;simp at he
       refine⟨⟨a3,kf,hr.pos,by simp,.inl rfl⟩,fun b hb=>?_⟩
       rcases hb with hb|⟨_,_,_,_,hb,uk⟩
       ·rw[aT.ko] at hb
        rcases hb with⟨hb,_⟩|⟨k,j,c,⟨e,he,_⟩,_⟩
        ·exact absurd rfl hb
        ·simp at he
       ·injection hb with _ _ hb _;exact absurd hb.symm uk
      ·obtain⟨r2,cur,e,r3,r4⟩:=hr.room aR rfl
       have e0:=had (.inr rfl)
       have e0':ad'=some (ad (G.g n).b (G.g n).o):=by rw[e0];simp
       subst e0'
       simp only[ku,Nat.sub_zero] at a3 a4⊢
       have D7:=o2.sub 0 len
       have e8:∀k j c,At ((List.drop 0 (G.g n).px).take len) k j c->At (G.g n).px k j c:=fun k j c hk=>by have:=(oF hk).1;simpa using this
       refine⟨⟨a3,.list _ _ _ _ D7.1 (fun b o k j c eR hk hb=>?_) D7.2,hr.pos,by simp;omega,.inr ⟨_,_,cur,e,rfl,r3,r4,r2,fun k j c hk hb=>?_⟩⟩,fun b hb=>?_⟩
       ·injection eR with eR
        exact o3 b ⟨_,_,_,e8 _ _ _ hk,hb⟩ aR (mX eR).1.symm
       ·exact o3 _ ⟨_,_,_,e8 _ _ _ hk,hb⟩ aR rfl
       ·have hf:m5 G n b:=by
         rcases hb with hb|⟨_,_,_,_,hb,uk⟩
         ·exact a4 b hb
         ·injection hb with _ hb _ _
          injection hb with hb
          exact .inl ⟨aR,(mX hb).1.symm⟩
        refine⟨?_,n,by simp,hf⟩
        rcases hf with⟨_,rfl⟩|hF
        ·exact⟨((H.own n bJ aR).2.1).resolve_right id,(hr.dT aR).1⟩
        ·exact⟨(o1 b hF).2,(o1 b hF).1⟩
     ·simp at hq
      subst hq
      exact⟨_,_,_,_,hn,hm⟩
    ·cases hx
   ·cases hx
 |ptr _ _ _ _=>simp[Am.kR] at hx
 |cj _ _=>simp[Am.kR] at hx
 |bx _ _ _ _ _ _=>simp[Am.kR] at hx
 |fn _ _=>simp[Am.kR] at hx
 |cN _ _ _ _ _ _=>simp[Am.kR] at hx
 |bn=>simp[Am.kR] at hx
structure sr (B:Nat) (w:World) (G:Gh) (h:Nat->Option aq) (ns:List Nat) (ps:List PC):Prop where
 each:∀pc∈ps,WS B w G h ns pc
 m4:ns.Nodup->ps.Pairwise fun p q=>∀b,iR b p->¬iR b q
theorem sr.append (H:HR B Ex.no w G h used []) {ns jX:List Nat} {ps ps':List PC} (h1:sr B w G h ns ps) (h2:sr B w G h jX ps') (n1:tI h ns) (n2:tI h jX):sr B w G h (ns++jX) (ps++ps'):=by
 refine⟨fun pc aY=>?_,fun hd=>?_⟩
 ·rcases List.mem_append.1 aY with hp|hp
  ·obtain⟨g,n⟩:=h1.each pc hp
   exact⟨g,fun b hb=>⟨(n b hb).1,by obtain⟨k,hk,hf⟩:=(n b hb).2;exact⟨k,by simp[hk],hf⟩⟩⟩
  ·obtain⟨g,n⟩:=h2.each pc hp
   exact⟨g,fun b hb=>⟨(n b hb).1,by obtain⟨k,hk,hf⟩:=(n b hb).2;exact⟨k,by simp[hk],hf⟩⟩⟩
 ·rw[List.nodup_append] at hd
  rw[List.pairwise_append]
  refine⟨h1.m4 hd.1,h2.m4 hd.2.1,fun p hp q hq b hb aW=>?_⟩
  obtain⟨k,hk,hf⟩:=((h1.each p hp).new b hb).2
  obtain⟨k',cY,fv⟩:=((h2.each q hq).new b aW).2
  obtain⟨_,_,_,_,e1,m1⟩:=n1 k hk
  obtain⟨_,_,_,_,e2,m2⟩:=n2 k' cY
  exact H.Za (hd.2.2 k hk k' cY) e1 e2 m1 m2 hf fv
theorem tI.append {ns jX:List Nat} (h1:tI h ns) (h2:tI h jX):tI h (ns++jX):=fun n hn=>(List.mem_append.1 hn).elim (h1 n) (h2 n)
theorem HR.tr (H:HR B Ex.no w G h used []):∀{cs:List ah} {xs:List C} {ns:List Nat} {vs:List Value},tr h cs=some (xs,ns)->cJ w G h cs vs->
  ∃bt:List PC,bt.map PC.er=xs/\bt.map PC.val=vs/\sr B w G h ns bt/\tI h ns
 |[],xs,ns,vs,hx,hc=>by
  simp only[Am.tr] at hx
  injection hx with hx
  injection hx with h1 h2
  subst h1 h2
  have:vs=[]:=List.eq_nil_of_length_eq_zero (by simpa using hc.1)
  subst this
  exact⟨[],rfl,rfl,⟨by simp,fun _=>List.Pairwise.nil⟩,fun n hn=>by simp at hn⟩
 |c::cs,xs,ns,vs,hx,hc=>by
  simp only[Am.tr] at hx
  split at hx
  ·rename_i x ns1 ar ns2 e1 e2
   injection hx with hx
   injection hx with h1 h2
   subst h1 h2
   obtain⟨hlen,cg⟩:=hc
   match vs,hlen with
   |v::vs,hlen=>
    obtain⟨pc,a1,a2,a3,a4⟩:=H.kR e1 (cg 0 c v rfl rfl).2
    obtain⟨bt,b1,b2,b3,b4⟩:=H.tr e2 (cs:=cs) (vs:=vs) ⟨by simpa using hlen,fun j c u h1 h2=>cg (j+1) c u h1 h2⟩
    have D2:sr B w G h ns1 [pc]:=⟨fun q hq=>by simp at hq;subst hq;exact a3,fun _=>by simp⟩
    exact⟨pc::bt,by simp[a1,b1],by simp[a2,b2],sr.append H D2 b3 a4 b4,a4.append b4⟩
  ·cases hx
theorem HR.qJ (H:HR B Ex.no w G h used []):∀{xs:List aj} {ds:List Dv} {ns:List Nat} {vs:List Value},qJ h xs=some (ds,ns)->vs.length=xs.length->
  (∀(j:Nat) (x:aj) (v:Value),xs[j]? =some x->vs[j]? =some v->RA w G h x v)->
  ∃aV:List (K×List PC),aV.map (fun p=>(p.1,p.2.map PC.er))=ds/\aV.map qK=vs/\(∀p∈aV,p.1≠ .ptr/\(p.1=.one->p.2.length=1))/\sr B w G h ns (aV.flatMap (·.2))/\tI h ns
 |[],ds,ns,vs,hx,hl,hc=>by
  simp only[Am.qJ] at hx
  injection hx with hx
  injection hx with h1 h2
  subst h1 h2
  have:vs=[]:=List.eq_nil_of_length_eq_zero (by simpa using hl)
  subst this
  exact⟨[],rfl,rfl,by simp,⟨by simp,fun _=>List.Pairwise.nil⟩,fun n hn=>by simp at hn⟩
 |x::xs,ds,ns,vs,hx,hl,hc=>by
  simp only[Am.qJ] at hx
  split at hx
  ·rename_i ag cs j7
   split at hx
   ·rename_i ys ns1 tW ns2 e1 e2
    injection hx with hx
    injection hx with h1 h2
    subst h1 h2
    match vs,hl with
    |v::vs,hl=>
     obtain⟨bt,a1,a2,a3,a4⟩:=H.tr e1 ((hc 0 x v rfl rfl).cells j7)
     obtain⟨aV,b1,b2,b3,b4,b5⟩:=H.qJ e2 (xs:=xs) (vs:=vs) (by simpa using hl) (fun j x v h1 h2=>hc (j+1) x v h1 h2)
     have DD:=hc 0 x v rfl rfl
     cases ag with
     |true=>
      have hv:qK (K.agg,bt)=v:=by
       cases x with
       |one c=>cases c<;>simp[aj.cells?] at j7
       |agg cs'=>
        obtain⟨us,e,_⟩:∃us:List Value,v=.agg us.toArray/\cJ w G h cs' us:=DD
        subst e
        simp only[qK,a2]
        simp[Value.cells]
       |bo l=>simp[aj.cells?] at j7
      refine⟨(K.agg,bt)::aV,by simp[a1,b1],by simp[hv,b2],fun p hp=>?_,?_,a4.append b5⟩
      ·cases hp with
       |head=>exact⟨by simp,fun e=>by cases e⟩
       |tail _ hp=>exact b3 p hp
      ·simpa using sr.append H a3 b4 a4 b5
     |false=>
      have DJ:∃c,x=.one c/\cs=[c]:=by
       cases x with
       |one c=>cases c<;>simp[aj.cells?] at j7<;>exact⟨_,rfl,j7.symm⟩
       |agg cs'=>simp[aj.cells?] at j7
       |bo l=>simp[aj.cells?] at j7
      obtain⟨c,rfl,rfl⟩:=DJ
      have f9:c≠ .bn:=by rintro rfl;simp[aj.cells?] at j7
      have h1c:=(DD.fz f9).2
      have yp:v.cells.toList=[v]:=by cases v<;>first|rfl|(simp[Value.oneCell'] at h1c)
      rw[yp] at a2
      match bt,a2 with
      |[pc],a2=>
       have hv:qK (K.one,[pc])=v:=by simpa[qK] using a2
       refine⟨(K.one,[pc])::aV,by simp[<-a1,b1],by simp[hv,b2],fun p hp=>?_,?_,a4.append b5⟩
       ·cases hp with
        |head=>exact⟨by simp,fun _=>rfl⟩
        |tail _ hp=>exact b3 p hp
       ·simpa using sr.append H a3 b4 a4 b5
   ·cases hx
  ·cases hx
end
end Go.Am
