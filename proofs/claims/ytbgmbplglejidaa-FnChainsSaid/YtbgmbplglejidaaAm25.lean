/- Am25: what a function returns. No condition. -/
import Derived.Test.YtbgmbplglejidaaAm24
set_option linter.unusedVariables false
namespace Go.Am
inductive bA where
 |tmp (t:Nat)
 |cell (t sz:Nat) (ag:Bool)
def m6 (P:Program):List ResultVar->List bA->Bool
 |[],[]=>true
 |.tmp t::rs,.tmp t'::ms=>(t==t')&&m6 P rs ms
 |.cell a ty::rs,.cell a' sz ag::ms=>(a==a')&&pR P ty ag sz&&m6 P rs ms
 |_,_=>false
def St.rU (σ:St):List bA->Option (List aj)
 |[]=>some []
 |.tmp t::ms=>match σ.rU ms with
  |some vs=>some (σ.env t::vs)
  |none=>none
 |.cell t sz ag::ms=>match σ.env t with
  |.one p=>match loadAt σ.h p sz,σ.rU ms with
   |some cs,some vs=>some (kV ag cs::vs)
   |_,_=>none
  |_=>none
def kR (h:Nat->Option ao):ah->Option (C×List Nat)
 |.c x=>if x.eN=true then some (x,[]) else none
 |.nil sz=>if 0<sz then some (.list sz [],[]) else none
 |.sl n sz 0 len=>match h n with
  |some (.row true m rs xs)=>if rs=sz/\m≠ .aD/\len<=xs.length then some (.list sz (xs.take len),[n]) else none
  |_=>none
 |_=>none
def te (h:Nat->Option ao):List ah->Option (List C×List Nat)
 |[]=>some ([],[])
 |c::cs=>match kR h c,te h cs with
  |some (x,ns),some (xs,jW)=>some (x::xs,ns++jW)
  |_,_=>none
def qG (h:Nat->Option ao):List aj->Option (List Dv×List Nat)
 |[]=>some ([],[])
 |v::vs=>match v.cells? with
  |some (ag,cs)=>match te h cs,qG h vs with
   |some (xs,ns),some (ds,jW)=>some ((if ag=true then(K.agg,xs) else(K.one,xs))::ds,ns++jW)
   |_,_=>none
  |none=>none
def St.td (σ:St) (ms:List bA):Option (List Dv):=
 match σ.rU ms with
 |some vs=>match qG σ.h vs with
  |some (ds,ns)=>if ns.Nodup then some ds else none
  |none=>none
 |none=>none
section
variable {B:Nat} {E:Ex} {w0 w w':World} {G G':Gh} {N:Nat} {h h':Nat->Option ao} {used:Nat->Bool}
variable {P:Program} {T:aO} {a:Act} {σ σ':St}
def m8 (G:Gh) (n b:Nat):Prop:=((G.g n).nl=false/\b=(G.g n).b)\/aV b (G.g n).px
theorem HR.Yb (H:HR B E w G h used []) {n n':Nat} (aB:n≠n') {gr bk:Bool} {m m':Mode} {sz aJ:Nat} {xs aq:List (List C)} (h1:h n=some (.row gr m sz xs)) (h2:h n'=some (.row bk m' aJ aq))
  (hm:m≠ .aD) (bJ:m'≠ .aD) {b:Nat} (hb:m8 G n b):¬m8 G n' b:=by
 have e1:h n≠none:=by rw[h1];simp
 have e2:h n'≠none:=by rw[h2];simp
 have own:∀{p q:Nat} {gr:Bool} {m:Mode} {sz:Nat} {xs:List (List C)},h p≠none->h q=some (.row gr m sz xs)->m≠ .aD->(G.g p).nl=false->¬aV (G.g p).b (G.g q).px:=by
  intro p q gr m sz xs hp hq hm hl hF
  have f0:=(H.row q gr m sz xs hq).mode
  cases m with
  |aD=>exact hm rfl
  |ae=>exact(H.own p hp hl).1 (f0.1 _ hF).1
  |live=>exact H.live q gr sz xs hq _ hF p hp hl rfl
 rintro(⟨l2,rfl⟩|b2)
 ·rcases hb with⟨l1,b1⟩|b1
  ·exact H.inj n n' e1 e2 aB l1 l2 b1.symm
  ·exact own e2 h1 hm l2 b1
 ·rcases hb with⟨l1,rfl⟩|b1
  ·exact own e1 h2 bJ l1 b2
  ·exact H.fJ n n' gr m sz xs bk m' aJ aq h1 h2 hm bJ aB b b1 b2
structure VR (B:Nat) (w:World) (G:Gh) (h:Nat->Option ao) (ns:List Nat) (pc:PC):Prop where
 eu:Good w pc/\Sep pc/\CR w pc
 new:∀b,iT b pc->(B<=b/\dD w b)/\∃n∈ns,m8 G n b
def tB (h:Nat->Option ao) (ns:List Nat):Prop:=∀n∈ns,∃gr m sz xs,h n=some (.row gr m sz xs)/\m≠ .aD
theorem HR.kR (H:HR B Ex.no w G h used []) {c:ah} {x:C} {ns:List Nat} {v:Value} (hx:kR h c=some (x,ns)) (hc:RC w G h c v):
  ∃pc:PC,pc.er=x/\pc.val=v/\VR B w G h ns pc/\tB h ns:=by
 have noT:∀pc:PC,(∀sz a cap xs,pc≠ .list sz a cap xs)->∀b,¬iT b pc:=by
  intro pc hp b hb
  rcases hb with hb|⟨sz,o,cap,xs,rfl,_⟩
  ·cases hb with
   |here sz o cap xs h=>exact hp _ _ _ _ rfl
   |there sz a cap xs k j c h1 h2=>exact hp _ _ _ _ rfl
  ·exact hp _ _ _ _ rfl
 cases c with
 |c y=>
  simp only[Am.kR] at hx
  split at hx
  ·rename_i hs
   injection hx with hx
   injection hx with h1 h2
   subst h1 h2
   obtain⟨pc,p1,p2,p3,p4⟩:=hc
   have ca:∀b,¬iT b pc:=noT pc (by rintro sz a cap xs rfl;rw[<-p1] at hs;simp[PC.dJ,C.eN] at hs)
   have Bh:CR w pc:=by
    cases pc with
    |list sz a cap xs=>rw[<-p1] at hs;simp[PC.dJ,C.eN] at hs
    |_=>trivial
   exact⟨pc,p1,p2,⟨⟨p3,(Sep.kP (by rw[p1];exact hs)).1,Bh⟩,fun b hb=>absurd hb (ca b)⟩,fun n hn=>by simp at hn⟩
  ·cases hx
 |nil sz=>
  simp only[Am.kR] at hx
  split at hx
  ·rename_i dL
   injection hx with hx
   injection hx with h1 h2
   subst h1 h2
   have cv:v=.slice none 0 0:=hc
   subst cv
   have kc:Sep (.list sz none 0 []):=by
    refine .list _ _ _ _ ?_ ?_ ?_
    ·rintro k j c ⟨e,he,_⟩;simp at he
    ·rintro b o k j c _ ⟨e,he,_⟩;simp at he
    ·rintro k j c k' j' c' b ⟨e,he,_⟩;simp at he
   refine⟨.list sz none 0 [],by simp[PC.dJ],rfl,⟨⟨.nil _ _ _ dL,kc,dL,by simp,.inl rfl⟩,fun b hb=>?_⟩,fun n hn=>by simp at hn⟩
   rcases hb with hb|⟨_,_,_,_,hb,tZ⟩
   ·rw[aS.kq] at hb
    rcases hb with⟨hb,_⟩|⟨k,j,c,⟨e,he,_⟩,_⟩
    ·exact absurd rfl hb
    ·simp at he
   ·cases hb
  ·cases hx
 |sl n sz lo len=>
  cases lo with
  |succ lo=>simp[Am.kR] at hx
  |zero=>
   simp only[Am.kR] at hx
   split at hx
   ·rename_i m rs xs hn
    split at hx
    ·rename_i cI
     obtain⟨rfl,hm,hl⟩:=cI
     injection hx with hx
     injection hx with h1 h2
     subst h1 h2
     have bM:h n≠none:=by rw[hn];simp
     have hr:=H.row n true m rs xs hn
     have hs:jq (G.g n) rs 0 len v:=hc bM
     obtain⟨a1,a2,a3,a4⟩:=E3 hr hs (by omega)
     have rA:(∀b,aV b (G.g n).px->dD w b/\B<=b)/\ij (G.g n).px/\(∀b,aV b (G.g n).px->(G.g n).nl=false->b≠(G.g n).b):=by
      have cX:=hr.mode
      cases m with
      |aD=>exact absurd rfl hm
      |ae=>exact⟨fun b hb=>⟨(cX.1 b hb).2.1,(cX.1 b hb).2.2.resolve_right id⟩,cX.2,fun b hb hl d9=>(H.own n bM hl).1 (d9▸(cX.1 b hb).1)⟩
      |live=>exact⟨fun b hb=>⟨(cX.1 b hb).2.1,(cX.1 b hb).2.2.resolve_right id⟩,cX.2,fun b hb hl=>H.live n true rs xs hn b hb n bM hl⟩
     obtain⟨o1,o2,o3⟩:=rA
     refine⟨kt (G.g n) rs 0 len v,by simpa using a1,a2,?_,fun q hq=>?_⟩
     ·rcases hs with⟨aL,rfl,_,rfl⟩|⟨aL,ad',rfl,ju,had⟩
      ·simp only[kt] at a3⊢
       have hz:(List.take 0 (List.drop 0 (G.g n).px))=[]:=by simp
       have vE:=(hr.nl aL).2 rfl
       rw[hz,vE] at a3⊢
       have kc:Sep (.list rs (G.g n).na 0 []):=by
        refine .list _ _ _ _ ?_ ?_ ?_
        ·rintro k j c ⟨e,he,_⟩;simp at he
        ·rintro b o k j c _ ⟨e,he,_⟩;simp at he
        ·rintro k j c k' j' c' b ⟨e,he,_⟩;simp at he
       refine⟨⟨a3,kc,hr.pos,by simp,.inl rfl⟩,fun b hb=>?_⟩
       rcases hb with hb|⟨_,_,_,_,hb,tZ⟩
       ·rw[aS.kq] at hb
        rcases hb with⟨hb,_⟩|⟨k,j,c,⟨e,he,_⟩,_⟩
        ·exact absurd rfl hb
        ·simp at he
       ·injection hb with _ _ hb _;exact absurd hb.symm tZ
      ·obtain⟨r2,cur,e,r3,r4⟩:=hr.room aL rfl
       have e0:=had (.inr rfl)
       have e0':ad'=some (ad (G.g n).b (G.g n).o):=by rw[e0];simp
       subst e0'
       simp only[kt,Nat.sub_zero] at a3 a4⊢
       have D4:=o2.sub 0 len
       have eR:∀k j c,At ((List.drop 0 (G.g n).px).take len) k j c->At (G.g n).px k j c:=fun k j c hk=>by have:=(oE hk).1;simpa using this
       refine⟨⟨a3,.list _ _ _ _ D4.1 (fun b o k j c eQ hk hb=>?_) D4.2,hr.pos,by simp;omega,.inr ⟨_,_,cur,e,rfl,r3,r4,r2,fun k j c hk hb=>?_⟩⟩,fun b hb=>?_⟩
       ·injection eQ with eQ
        exact o3 b ⟨_,_,_,eR _ _ _ hk,hb⟩ aL (m4 eQ).1.symm
       ·exact o3 _ ⟨_,_,_,eR _ _ _ hk,hb⟩ aL rfl
       ·have hf:m8 G n b:=by
         rcases hb with hb|⟨_,_,_,_,hb,tZ⟩
         ·exact a4 b hb
         ·injection hb with _ hb _ _
          injection hb with hb
          exact .inl ⟨aL,(m4 hb).1.symm⟩
        refine⟨?_,n,by simp,hf⟩
        rcases hf with⟨_,rfl⟩|hF
        ·exact⟨((H.own n bM aL).2.1).resolve_right id,(hr.dR aL).1⟩
        ·exact⟨(o1 b hF).2,(o1 b hF).1⟩
     ·simp at hq
      subst hq
      exact⟨_,_,_,_,hn,hm⟩
    ·cases hx
   ·cases hx
 |ptr _ _ _ _=>simp[Am.kR] at hx
 |cu _ _=>simp[Am.kR] at hx
 |bz _ _ _ _ _ _=>simp[Am.kR] at hx
 |fn _ _=>simp[Am.kR] at hx
 |cQ _ _ _ _ _ _=>simp[Am.kR] at hx
 |bm=>simp[Am.kR] at hx
structure se (B:Nat) (w:World) (G:Gh) (h:Nat->Option ao) (ns:List Nat) (ps:List PC):Prop where
 each:∀pc∈ps,VR B w G h ns pc
 m7:ns.Nodup->ps.Pairwise fun p q=>∀b,iT b p->¬iT b q
theorem se.append (H:HR B Ex.no w G h used []) {ns jW:List Nat} {ps ps':List PC} (h1:se B w G h ns ps) (h2:se B w G h jW ps') (n1:tB h ns) (n2:tB h jW):se B w G h (ns++jW) (ps++ps'):=by
 refine⟨fun pc aZ=>?_,fun hd=>?_⟩
 ·rcases List.mem_append.1 aZ with hp|hp
  ·obtain⟨g,n⟩:=h1.each pc hp
   exact⟨g,fun b hb=>⟨(n b hb).1,by obtain⟨k,hk,hf⟩:=(n b hb).2;exact⟨k,by simp[hk],hf⟩⟩⟩
  ·obtain⟨g,n⟩:=h2.each pc hp
   exact⟨g,fun b hb=>⟨(n b hb).1,by obtain⟨k,hk,hf⟩:=(n b hb).2;exact⟨k,by simp[hk],hf⟩⟩⟩
 ·rw[List.nodup_append] at hd
  rw[List.pairwise_append]
  refine⟨h1.m7 hd.1,h2.m7 hd.2.1,fun p hp q hq b hb aY=>?_⟩
  obtain⟨k,hk,hf⟩:=((h1.each p hp).new b hb).2
  obtain⟨k',cW,gN⟩:=((h2.each q hq).new b aY).2
  obtain⟨_,_,_,_,e1,m1⟩:=n1 k hk
  obtain⟨_,_,_,_,e2,m2⟩:=n2 k' cW
  exact H.Yb (hd.2.2 k hk k' cW) e1 e2 m1 m2 hf gN
theorem tB.append {ns jW:List Nat} (h1:tB h ns) (h2:tB h jW):tB h (ns++jW):=fun n hn=>(List.mem_append.1 hn).elim (h1 n) (h2 n)
theorem HR.te (H:HR B Ex.no w G h used []):∀{cs:List ah} {xs:List C} {ns:List Nat} {vs:List Value},te h cs=some (xs,ns)->cN w G h cs vs->
  ∃bu:List PC,bu.map PC.er=xs/\bu.map PC.val=vs/\se B w G h ns bu/\tB h ns
 |[],xs,ns,vs,hx,hc=>by
  simp only[Am.te] at hx
  injection hx with hx
  injection hx with h1 h2
  subst h1 h2
  have:vs=[]:=List.eq_nil_of_length_eq_zero (by simpa using hc.1)
  subst this
  exact⟨[],rfl,rfl,⟨by simp,fun _=>List.Pairwise.nil⟩,fun n hn=>by simp at hn⟩
 |c::cs,xs,ns,vs,hx,hc=>by
  simp only[Am.te] at hx
  split at hx
  ·rename_i x ns1 aq ns2 e1 e2
   injection hx with hx
   injection hx with h1 h2
   subst h1 h2
   obtain⟨hlen,bQ⟩:=hc
   match vs,hlen with
   |v::vs,hlen=>
    obtain⟨pc,a1,a2,a3,a4⟩:=H.kR e1 (bQ 0 c v rfl rfl).2
    obtain⟨bu,b1,b2,b3,b4⟩:=H.te e2 (cs:=cs) (vs:=vs) ⟨by simpa using hlen,fun j c u h1 h2=>bQ (j+1) c u h1 h2⟩
    have DY:se B w G h ns1 [pc]:=⟨fun q hq=>by simp at hq;subst hq;exact a3,fun _=>by simp⟩
    exact⟨pc::bu,by simp[a1,b1],by simp[a2,b2],se.append H DY b3 a4 b4,a4.append b4⟩
  ·cases hx
theorem HR.qG (H:HR B Ex.no w G h used []):∀{xs:List aj} {ds:List Dv} {ns:List Nat} {vs:List Value},qG h xs=some (ds,ns)->vs.length=xs.length->
  (∀(j:Nat) (x:aj) (v:Value),xs[j]? =some x->vs[j]? =some v->RA w G h x v)->
  ∃aT:List (K×List PC),aT.map (fun p=>(p.1,p.2.map PC.er))=ds/\aT.map qH=vs/\(∀p∈aT,p.1≠ .ptr/\(p.1=.one->p.2.length=1))/\se B w G h ns (aT.flatMap (·.2))/\tB h ns
 |[],ds,ns,vs,hx,hl,hc=>by
  simp only[Am.qG] at hx
  injection hx with hx
  injection hx with h1 h2
  subst h1 h2
  have:vs=[]:=List.eq_nil_of_length_eq_zero (by simpa using hl)
  subst this
  exact⟨[],rfl,rfl,by simp,⟨by simp,fun _=>List.Pairwise.nil⟩,fun n hn=>by simp at hn⟩
 |x::xs,ds,ns,vs,hx,hl,hc=>by
  simp only[Am.qG] at hx
  split at hx
  ·rename_i ag cs j5
   split at hx
   ·rename_i ys ns1 tK ns2 e1 e2
    injection hx with hx
    injection hx with h1 h2
    subst h1 h2
    match vs,hl with
    |v::vs,hl=>
     obtain⟨bu,a1,a2,a3,a4⟩:=H.te e1 ((hc 0 x v rfl rfl).cells j5)
     obtain⟨aT,b1,b2,b3,b4,b5⟩:=H.qG e2 (xs:=xs) (vs:=vs) (by simpa using hl) (fun j x v h1 h2=>hc (j+1) x v h1 h2)
     have DD:=hc 0 x v rfl rfl
     cases ag with
     |true=>
      have hv:qH (K.agg,bu)=v:=by
       cases x with
       |one c=>cases c<;>simp[aj.cells?] at j5
       |agg cs'=>
        obtain⟨us,e,_⟩:∃us:List Value,v=.agg us.toArray/\cN w G h cs' us:=DD
        subst e
        simp only[qH,a2]
        simp[Value.cells]
       |bn l=>simp[aj.cells?] at j5
      refine⟨(K.agg,bu)::aT,by simp[a1,b1],by simp[hv,b2],fun p hp=>?_,?_,a4.append b5⟩
      ·cases hp with
       |head=>exact⟨by simp,fun e=>by cases e⟩
       |tail _ hp=>exact b3 p hp
      ·simpa using se.append H a3 b4 a4 b5
     |false=>
      have DK:∃c,x=.one c/\cs=[c]:=by
       cases x with
       |one c=>cases c<;>simp[aj.cells?] at j5<;>exact⟨_,rfl,j5.symm⟩
       |agg cs'=>simp[aj.cells?] at j5
       |bn l=>simp[aj.cells?] at j5
      obtain⟨c,rfl,rfl⟩:=DK
      have gf:c≠ .bm:=by rintro rfl;simp[aj.cells?] at j5
      have h1c:=(DD.fH gf).2
      have yd:v.cells.toList=[v]:=by cases v<;>first|rfl|(simp[Value.oneCell'] at h1c)
      rw[yd] at a2
      match bu,a2 with
      |[pc],a2=>
       have hv:qH (K.one,[pc])=v:=by simpa[qH] using a2
       refine⟨(K.one,[pc])::aT,by simp[<-a1,b1],by simp[hv,b2],fun p hp=>?_,?_,a4.append b5⟩
       ·cases hp with
        |head=>exact⟨by simp,fun _=>rfl⟩
        |tail _ hp=>exact b3 p hp
       ·simpa using se.append H a3 b4 a4 b5
   ·cases hx
  ·cases hx
end
end Go.Am
