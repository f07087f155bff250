/- Am25: what a function returns. No condition. -/
import Derived.Test.YtifmggmhdcdgbaaAm24
set_option linter.unusedVariables false
namespace Go.Am
inductive bA where
 |tmp (t:Nat)
 |cell (t sz:Nat) (ag:Bool)
def m9 (P:Program):List ResultVar->List bA->Bool
 |[],[]=>true
 |.tmp t::rs,.tmp t'::ms=>(t==t')&&m9 P rs ms
 |.cell a ty::rs,.cell a' sz ag::ms=>(a==a')&&r6 P ty ag sz&&m9 P rs ms
 |_,_=>false
def St.rz (σ:St):List bA->Option (List aj)
 |[]=>some []
 |.tmp t::ms=>match σ.rz ms with
  |some vs=>some (σ.env t::vs)
  |none=>none
 |.cell t sz ag::ms=>match σ.env t with
  |.one p=>match loadAt σ.h p sz,σ.rz ms with
   |some cs,some vs=>some (mW ag cs::vs)
   |_,_=>none
  |_=>none
def ld (h:Nat->Option aq):ah->Option (C×List Nat)
 |.c x=>if x.eD=true then some (x,[]) else none
 |.nil sz=>if 0<sz then some (.list sz [],[]) else none
 |.sl n sz 0 len=>match h n with
  |some (.row true m rs xs)=>if rs=sz/\m≠ .aF/\len<=xs.length then some (.list sz (xs.take len),[n]) else none
  |_=>none
 |_=>none
def sU (h:Nat->Option aq):List ah->Option (List C×List Nat)
 |[]=>some ([],[])
 |c::cs=>match ld h c,sU h cs with
  |some (x,ns),some (xs,ka)=>some (x::xs,ns++ka)
  |_,_=>none
def qy (h:Nat->Option aq):List aj->Option (List Dv×List Nat)
 |[]=>some ([],[])
 |v::vs=>match v.cells? with
  |some (ag,cs)=>match sU h cs,qy h vs with
   |some (xs,ns),some (ds,ka)=>some ((if ag=true then(K.agg,xs) else(K.one,xs))::ds,ns++ka)
   |_,_=>none
  |none=>none
def St.sT (σ:St) (ms:List bA):Option (List Dv):=
 match σ.rz ms with
 |some vs=>match qy σ.h vs with
  |some (ds,ns)=>if ns.Nodup then some ds else none
  |none=>none
 |none=>none
section
variable {B:Nat} {E:Ex} {w0 w w':World} {G G':Gh} {N:Nat} {h h':Nat->Option aq} {used:Nat->Bool}
variable {P:Program} {T:bh} {a:Act} {σ σ':St}
def nX (G:Gh) (n b:Nat):Prop:=((G.g n).nl=false/\b=(G.g n).b)\/aV b (G.g n).px
theorem HR.Vy (H:HR B E w G h used []) {n n':Nat} (aC:n≠n') {gr bi:Bool} {m m':Mode} {sz aK:Nat} {xs ar:List (List C)} (h1:h n=some (.row gr m sz xs)) (h2:h n'=some (.row bi m' aK ar))
  (hm:m≠ .aF) (bE:m'≠ .aF) {b:Nat} (hb:nX G n b):¬nX G n' b:=by
 have e1:h n≠none:=by rw[h1];simp
 have e2:h n'≠none:=by rw[h2];simp
 have own:∀{p q:Nat} {gr:Bool} {m:Mode} {sz:Nat} {xs:List (List C)},h p≠none->h q=some (.row gr m sz xs)->m≠ .aF->(G.g p).nl=false->¬aV (G.g p).b (G.g q).px:=by
  intro p q gr m sz xs hp hq hm hl hF
  have gK:=(H.row q gr m sz xs hq).mode
  cases m with
  |aF=>exact hm rfl
  |aa=>exact(H.own p hp hl).1 (gK.1 _ hF).1
  |live=>exact H.live q gr sz xs hq _ hF p hp hl rfl
 rintro(⟨l2,rfl⟩|b2)
 ·rcases hb with⟨l1,b1⟩|b1
  ·exact H.inj n n' e1 e2 aC l1 l2 b1.symm
  ·exact own e2 h1 hm l2 b1
 ·rcases hb with⟨l1,rfl⟩|b1
  ·exact own e1 h2 bE l1 b2
  ·exact H.fy n n' gr m sz xs bi m' aK ar h1 h2 hm bE aC b b1 b2
structure TL (B:Nat) (w:World) (G:Gh) (h:Nat->Option aq) (ns:List Nat) (pc:PC):Prop where
 dV:Good w pc/\Sep pc/\BW w pc
 new:∀b,jr b pc->(B<=b/\dr w b)/\∃n∈ns,nX G n b
def tm (h:Nat->Option aq) (ns:List Nat):Prop:=∀n∈ns,∃gr m sz xs,h n=some (.row gr m sz xs)/\m≠ .aF
theorem HR.ld (H:HR B Ex.no w G h used []) {c:ah} {x:C} {ns:List Nat} {v:Value} (hx:ld h c=some (x,ns)) (hc:RC w G h c v):
  ∃pc:PC,pc.er=x/\pc.val=v/\TL B w G h ns pc/\tm h ns:=by
 have noT:∀pc:PC,(∀sz a cap xs,pc≠ .list sz a cap xs)->∀b,¬jr b pc:=by
  intro pc hp b hb
  rcases hb with hb|⟨sz,o,cap,xs,rfl,_⟩
  ·cases hb with
   |here sz o cap xs h=>exact hp _ _ _ _ rfl
   |there sz a cap xs k j c h1 h2=>exact hp _ _ _ _ rfl
  ·exact hp _ _ _ _ rfl
 cases c with
 |c y=>
  simp only[Am.ld] at hx
  split at hx
  ·rename_i hs
   injection hx with hx
   injection hx with h1 h2
   subst h1 h2
   obtain⟨pc,p1,p2,p3,p4⟩:=hc
   have ct:∀b,¬jr b pc:=noT pc (by rintro sz a cap xs rfl;rw[<-p1] at hs;simp[PC.dw,C.eD] at hs)
   have z7:BW w pc:=by
    cases pc with
    |list sz a cap xs=>rw[<-p1] at hs;simp[PC.dw,C.eD] at hs
    |_=>trivial
   exact⟨pc,p1,p2,⟨⟨p3,(Sep.lc (by rw[p1];exact hs)).1,z7⟩,fun b hb=>absurd hb (ct b)⟩,fun n hn=>by simp at hn⟩
  ·cases hx
 |nil sz=>
  simp only[Am.ld] at hx
  split at hx
  ·rename_i eO
   injection hx with hx
   injection hx with h1 h2
   subst h1 h2
   have cI:v=.slice none 0 0:=hc
   subst cI
   have kt:Sep (.list sz none 0 []):=by
    refine .list _ _ _ _ ?_ ?_ ?_
    ·rintro k j c ⟨e,he,_⟩;simp at he
    ·rintro b o k j c _ ⟨e,he,_⟩;simp at he
    ·rintro k j c k' j' c' b ⟨e,he,_⟩;simp at he
   refine⟨.list sz none 0 [],by simp[PC.dw],rfl,⟨⟨.nil _ _ _ eO,kt,eO,by simp,.inl rfl⟩,fun b hb=>?_⟩,fun n hn=>by simp at hn⟩
   rcases hb with hb|⟨_,_,_,_,hb,tL⟩
   ·rw[aR.kA] at hb
    rcases hb with⟨hb,_⟩|⟨k,j,c,⟨e,he,_⟩,_⟩
    ·exact absurd rfl hb
    ·simp at he
   ·cases hb
  ·cases hx
 |sl n sz lo len=>
  cases lo with
  |succ lo=>simp[Am.ld] at hx
  |zero=>
   simp only[Am.ld] at hx
   split at hx
   ·rename_i m rs xs hn
    split at hx
    ·rename_i cv
     obtain⟨rfl,hm,hl⟩:=cv
     injection hx with hx
     injection hx with h1 h2
     subst h1 h2
     have bN:h n≠none:=by rw[hn];simp
     have hr:=H.row n true m rs xs hn
     have hs:jR (G.g n) rs 0 len v:=hc bN
     obtain⟨a1,a2,a3,a4⟩:=D5 hr hs (by omega)
     have rb:(∀b,aV b (G.g n).px->dr w b/\B<=b)/\io (G.g n).px/\(∀b,aV b (G.g n).px->(G.g n).nl=false->b≠(G.g n).b):=by
      have cU:=hr.mode
      cases m with
      |aF=>exact absurd rfl hm
      |aa=>exact⟨fun b hb=>⟨(cU.1 b hb).2.1,(cU.1 b hb).2.2.resolve_right id⟩,cU.2,fun b hb hl dA=>(H.own n bN hl).1 (dA▸(cU.1 b hb).1)⟩
      |live=>exact⟨fun b hb=>⟨(cU.1 b hb).2.1,(cU.1 b hb).2.2.resolve_right id⟩,cU.2,fun b hb hl=>H.live n true rs xs hn b hb n bN hl⟩
     obtain⟨o1,o2,o3⟩:=rb
     refine⟨kF (G.g n) rs 0 len v,by simpa using a1,a2,?_,fun q hq=>?_⟩
     ·rcases hs with⟨aO,rfl,_,rfl⟩|⟨aO,ad',rfl,kl,had⟩
      ·simp only[kF] at a3⊢
       have hz:(List.take 0 (List.drop 0 (G.g n).px))=[]:=by simp
       have vh:=(hr.nl aO).2 rfl
       rw[hz,vh] at a3⊢
       have kt:Sep (.list rs (G.g n).na 0 []):=by
        refine .list _ _ _ _ ?_ ?_ ?_
        ·rintro k j c ⟨e,he,_⟩;simp at he
        ·rintro b o k j c _ ⟨e,he,_⟩;simp at he
        ·rintro k j c k' j' c' b ⟨e,he,_⟩;simp at he
       refine⟨⟨a3,kt,hr.pos,by simp,.inl rfl⟩,fun b hb=>?_⟩
       rcases hb with hb|⟨_,_,_,_,hb,tL⟩
       ·rw[aR.kA] at hb
        rcases hb with⟨hb,_⟩|⟨k,j,c,⟨e,he,_⟩,_⟩
        ·exact absurd rfl hb
        ·simp at he
       ·injection hb with _ _ hb _;exact absurd hb.symm tL
      ·obtain⟨r2,cur,e,r3,r4⟩:=hr.room aO rfl
       have e0:=had (.inr rfl)
       have e0':ad'=some (ad (G.g n).b (G.g n).o):=by rw[e0];simp
       subst e0'
       simp only[kF,Nat.sub_zero] at a3 a4⊢
       have C0:=o2.sub 0 len
       have fo:∀k j c,At ((List.drop 0 (G.g n).px).take len) k j c->At (G.g n).px k j c:=fun k j c hk=>by have:=(oN hk).1;simpa using this
       refine⟨⟨a3,.list _ _ _ _ C0.1 (fun b o k j c fc hk hb=>?_) C0.2,hr.pos,by simp;omega,.inr ⟨_,_,cur,e,rfl,r3,r4,r2,fun k j c hk hb=>?_⟩⟩,fun b hb=>?_⟩
       ·injection fc with fc
        exact o3 b ⟨_,_,_,fo _ _ _ hk,hb⟩ aO (nQ fc).1.symm
       ·exact o3 _ ⟨_,_,_,fo _ _ _ hk,hb⟩ aO rfl
       ·have hf:nX G n b:=by
         rcases hb with hb|⟨_,_,_,_,hb,tL⟩
         ·exact a4 b hb
         ·injection hb with _ hb _ _
          injection hb with hb
          exact .inl ⟨aO,(nQ hb).1.symm⟩
        refine⟨?_,n,by simp,hf⟩
        rcases hf with⟨_,rfl⟩|hF
        ·exact⟨((H.own n bN aO).2.1).resolve_right id,(hr.dE aO).1⟩
        ·exact⟨(o1 b hF).2,(o1 b hF).1⟩
     ·simp at hq
      subst hq
      exact⟨_,_,_,_,hn,hm⟩
    ·cases hx
   ·cases hx
 |ptr _ _ _ _=>simp[Am.ld] at hx
 |cf _ _=>simp[Am.ld] at hx
 |bt _ _ _ _ _ _=>simp[Am.ld] at hx
 |fn _ _=>simp[Am.ld] at hx
 |cB _ _ _ _ _ _=>simp[Am.ld] at hx
 |bj=>simp[Am.ld] at hx
structure rT (B:Nat) (w:World) (G:Gh) (h:Nat->Option aq) (ns:List Nat) (ps:List PC):Prop where
 each:∀pc∈ps,TL B w G h ns pc
 nb:ns.Nodup->ps.Pairwise fun p q=>∀b,jr b p->¬jr b q
theorem rT.append (H:HR B Ex.no w G h used []) {ns ka:List Nat} {ps Yt:List PC} (h1:rT B w G h ns ps) (h2:rT B w G h ka Yt) (n1:tm h ns) (n2:tm h ka):rT B w G h (ns++ka) (ps++Yt):=by
 refine⟨fun pc bd=>?_,fun hd=>?_⟩
 ·rcases List.mem_append.1 bd with hp|hp
  ·obtain⟨g,n⟩:=h1.each pc hp
   exact⟨g,fun b hb=>⟨(n b hb).1,by obtain⟨k,hk,hf⟩:=(n b hb).2;exact⟨k,by simp[hk],hf⟩⟩⟩
  ·obtain⟨g,n⟩:=h2.each pc hp
   exact⟨g,fun b hb=>⟨(n b hb).1,by obtain⟨k,hk,hf⟩:=(n b hb).2;exact⟨k,by simp[hk],hf⟩⟩⟩
 ·rw[List.nodup_append] at hd
  rw[List.pairwise_append]
  refine⟨h1.nb hd.1,h2.nb hd.2.1,fun p hp q hq b hb aX=>?_⟩
  obtain⟨k,hk,hf⟩:=((h1.each p hp).new b hb).2
  obtain⟨k',da,km⟩:=((h2.each q hq).new b aX).2
  obtain⟨_,_,_,_,e1,m1⟩:=n1 k hk
  obtain⟨_,_,_,_,e2,m2⟩:=n2 k' da
  exact H.Vy (hd.2.2 k hk k' da) e1 e2 m1 m2 hf km
theorem tm.append {ns ka:List Nat} (h1:tm h ns) (h2:tm h ka):tm h (ns++ka):=fun n hn=>(List.mem_append.1 hn).elim (h1 n) (h2 n)
theorem HR.sU (H:HR B Ex.no w G h used []):∀{cs:List ah} {xs:List C} {ns:List Nat} {vs:List Value},sU h cs=some (xs,ns)->cA w G h cs vs->
  ∃bz:List PC,bz.map PC.er=xs/\bz.map PC.val=vs/\rT B w G h ns bz/\tm h ns
 |[],xs,ns,vs,hx,hc=>by
  simp only[Am.sU] at hx
  injection hx with hx
  injection hx with h1 h2
  subst h1 h2
  have:vs=[]:=List.eq_nil_of_length_eq_zero (by simpa using hc.1)
  subst this
  exact⟨[],rfl,rfl,⟨by simp,fun _=>List.Pairwise.nil⟩,fun n hn=>by simp at hn⟩
 |c::cs,xs,ns,vs,hx,hc=>by
  simp only[Am.sU] at hx
  split at hx
  ·rename_i x X8 ar X9 e1 e2
   injection hx with hx
   injection hx with h1 h2
   subst h1 h2
   obtain⟨hlen,cr⟩:=hc
   match vs,hlen with
   |v::vs,hlen=>
    obtain⟨pc,a1,a2,a3,a4⟩:=H.ld e1 (cr 0 c v rfl rfl).2
    obtain⟨bz,b1,b2,b3,b4⟩:=H.sU e2 (cs:=cs) (vs:=vs) ⟨by simpa using hlen,fun j c u h1 h2=>cr (j+1) c u h1 h2⟩
    have CV:rT B w G h X8 [pc]:=⟨fun q hq=>by simp at hq;subst hq;exact a3,fun _=>by simp⟩
    exact⟨pc::bz,by simp[a1,b1],by simp[a2,b2],rT.append H CV b3 a4 b4,a4.append b4⟩
  ·cases hx
theorem HR.qy (H:HR B Ex.no w G h used []):∀{xs:List aj} {ds:List Dv} {ns:List Nat} {vs:List Value},qy h xs=some (ds,ns)->vs.length=xs.length->
  (∀(j:Nat) (x:aj) (v:Value),xs[j]? =some x->vs[j]? =some v->RA w G h x v)->
  ∃aU:List (K×List PC),aU.map (fun p=>(p.1,p.2.map PC.er))=ds/\aU.map qz=vs/\(∀p∈aU,p.1≠ .ptr/\(p.1=.one->p.2.length=1))/\rT B w G h ns (aU.flatMap (·.2))/\tm h ns
 |[],ds,ns,vs,hx,hl,hc=>by
  simp only[Am.qy] at hx
  injection hx with hx
  injection hx with h1 h2
  subst h1 h2
  have:vs=[]:=List.eq_nil_of_length_eq_zero (by simpa using hl)
  subst this
  exact⟨[],rfl,rfl,by simp,⟨by simp,fun _=>List.Pairwise.nil⟩,fun n hn=>by simp at hn⟩
 |x::xs,ds,ns,vs,hx,hl,hc=>by
  simp only[Am.qy] at hx
  split at hx
  ·rename_i ag cs ki
   split at hx
   ·rename_i ys X8 xo X9 e1 e2
    injection hx with hx
    injection hx with h1 h2
    subst h1 h2
    match vs,hl with
    |v::vs,hl=>
     obtain⟨bz,a1,a2,a3,a4⟩:=H.sU e1 ((hc 0 x v rfl rfl).cells ki)
     obtain⟨aU,b1,b2,b3,b4,b5⟩:=H.qy e2 (xs:=xs) (vs:=vs) (by simpa using hl) (fun j x v h1 h2=>hc (j+1) x v h1 h2)
     have CA:=hc 0 x v rfl rfl
     cases ag with
     |true=>
      have hv:qz (K.agg,bz)=v:=by
       cases x with
       |one c=>cases c<;>simp[aj.cells?] at ki
       |agg cs'=>
        obtain⟨us,e,_⟩:∃us:List Value,v=.agg us.toArray/\cA w G h cs' us:=CA
        subst e
        simp only[qz,a2]
        simp[Value.cells]
       |bk l=>simp[aj.cells?] at ki
      refine⟨(K.agg,bz)::aU,by simp[a1,b1],by simp[hv,b2],fun p hp=>?_,?_,a4.append b5⟩
      ·cases hp with
       |head=>exact⟨by simp,fun e=>by cases e⟩
       |tail _ hp=>exact b3 p hp
      ·simpa using rT.append H a3 b4 a4 b5
     |false=>
      have CH:∃c,x=.one c/\cs=[c]:=by
       cases x with
       |one c=>cases c<;>simp[aj.cells?] at ki<;>exact⟨_,rfl,ki.symm⟩
       |agg cs'=>simp[aj.cells?] at ki
       |bk l=>simp[aj.cells?] at ki
      obtain⟨c,rfl,rfl⟩:=CH
      have gh:c≠ .bj:=by rintro rfl;simp[aj.cells?] at ki
      have h1c:=(CA.fv gh).2
      have xI:v.cells.toList=[v]:=by cases v<;>first|rfl|(simp[Value.oneCell'] at h1c)
      rw[xI] at a2
      match bz,a2 with
      |[pc],a2=>
       have hv:qz (K.one,[pc])=v:=by simpa[qz] using a2
       refine⟨(K.one,[pc])::aU,by simp[<-a1,b1],by simp[hv,b2],fun p hp=>?_,?_,a4.append b5⟩
       ·cases hp with
        |head=>exact⟨by simp,fun _=>rfl⟩
        |tail _ hp=>exact b3 p hp
       ·simpa using rT.append H a3 b4 a4 b5
   ·cases hx
  ·cases hx
end
end Go.Am
