/- Am25: what a function returns. No condition. -/
import Derived.Test.YtifmggmhdcdgbaaAm24
set_option linter.unusedVariables false
namespace Go.Am
inductive bV where
 |tmp (t:Nat)
 |cell (t sz:Nat) (ag:Bool)
def mw (P:Program):List ResultVar->List bV->Bool
 |[],[]=>true
 |.tmp t::rs,.tmp t'::ms=>(t==t')&&mw P rs ms
 |.cell a ty::rs,.cell a' sz ag::ms=>(a==a')&&oW P ty ag sz&&mw P rs ms
 |_,_=>false
def St.qV (σ:St):List bV->Option (List ak)
 |[]=>some []
 |.tmp t::ms=>match σ.qV ms with
  |some vs=>some (σ.env t::vs)
  |none=>none
 |.cell t sz ag::ms=>match σ.env t with
  |.one p=>match loadAt σ.h p sz,σ.qV ms with
   |some cs,some vs=>some (kI ag cs::vs)
   |_,_=>none
  |_=>none
def kC (h:Nat->Option aq):ai->Option (C×List Nat)
 |.c x=>if x.dT=true then some (x,[]) else none
 |.nil sz=>if 0<sz then some (.list sz [],[]) else none
 |.sl n sz 0 len=>match h n with
  |some (.row true m rs xs)=>if rs=sz/\m≠ .aA/\len<=xs.length then some (.list sz (xs.take len),[n]) else none
  |_=>none
 |_=>none
def sD (h:Nat->Option aq):List ai->Option (List C×List Nat)
 |[]=>some ([],[])
 |c::cs=>match kC h c,sD h cs with
  |some (x,ns),some (xs,jB)=>some (x::xs,ns++jB)
  |_,_=>none
def pQ (h:Nat->Option aq):List ak->Option (List Dv×List Nat)
 |[]=>some ([],[])
 |v::vs=>match v.cells? with
  |some (ag,cs)=>match sD h cs,pQ h vs with
   |some (xs,ns),some (ds,jB)=>some ((if ag=true then(K.agg,xs) else(K.one,xs))::ds,ns++jB)
   |_,_=>none
  |none=>none
def St.sC (σ:St) (ms:List bV):Option (List Dv):=
 match σ.qV ms with
 |some vs=>match pQ σ.h vs with
  |some (ds,ns)=>if ns.Nodup then some ds else none
  |none=>none
 |none=>none
section
variable {B:Nat} {E:Ex} {w0 w w':World} {G G':Gh} {N:Nat} {h h':Nat->Option aq} {used:Nat->Bool}
variable {P:Program} {T:bg} {a:Act} {σ σ':St}
def nj (G:Gh) (n b:Nat):Prop:=((G.g n).nl=false/\b=(G.g n).b)\/aP b (G.g n).px
theorem HR.UU (H:HR B E w G h used []) {n n':Nat} (aw:n≠n') {gr bh:Bool} {m m':Mode} {sz aG:Nat} {xs ar:List (List C)} (h1:h n=some (.row gr m sz xs)) (h2:h n'=some (.row bh m' aG ar))
  (hm:m≠ .aA) (bI:m'≠ .aA) {b:Nat} (hb:nj G n b):¬nj G n' b:=by
 have e1:h n≠none:=by rw[h1];simp
 have e2:h n'≠none:=by rw[h2];simp
 have own:∀{p q:Nat} {gr:Bool} {m:Mode} {sz:Nat} {xs:List (List C)},h p≠none->h q=some (.row gr m sz xs)->m≠ .aA->(G.g p).nl=false->¬aP (G.g p).b (G.g q).px:=by
  intro p q gr m sz xs hp hq hm hl hF
  have gu:=(H.row q gr m sz xs hq).mode
  cases m with
  |aA=>exact hm rfl
  |ae=>exact(H.own p hp hl).1 (gu.1 _ hF).1
  |live=>exact H.live q gr sz xs hq _ hF p hp hl rfl
 rintro(⟨l2,rfl⟩|b2)
 ·rcases hb with⟨l1,b1⟩|b1
  ·exact H.inj n n' e1 e2 aw l1 l2 b1.symm
  ·exact own e2 h1 hm l2 b1
 ·rcases hb with⟨l1,rfl⟩|b1
  ·exact own e1 h2 bI l1 b2
  ·exact H.fi n n' gr m sz xs bh m' aG ar h1 h2 hm bI aw b b1 b2
structure SO (B:Nat) (w:World) (G:Gh) (h:Nat->Option aq) (ns:List Nat) (pc:PC):Prop where
 ek:Good w pc/\Sep pc/\BV w pc
 new:∀b,iL b pc->(B<=b/\dk w b)/\∃n∈ns,nj G n b
def sT (h:Nat->Option aq) (ns:List Nat):Prop:=∀n∈ns,∃gr m sz xs,h n=some (.row gr m sz xs)/\m≠ .aA
theorem HR.kC (H:HR B Ex.no w G h used []) {c:ai} {x:C} {ns:List Nat} {v:Value} (hx:kC h c=some (x,ns)) (hc:RC w G h c v):
  ∃pc:PC,pc.er=x/\pc.val=v/\SO B w G h ns pc/\sT h ns:=by
 have noT:∀pc:PC,(∀sz a cap xs,pc≠ .list sz a cap xs)->∀b,¬iL b pc:=by
  intro pc hp b hb
  rcases hb with hb|⟨sz,o,cap,xs,rfl,_⟩
  ·cases hb with
   |here sz o cap xs h=>exact hp _ _ _ _ rfl
   |there sz a cap xs k j c h1 h2=>exact hp _ _ _ _ rfl
  ·exact hp _ _ _ _ rfl
 cases c with
 |c y=>
  simp only[Am.kC] at hx
  split at hx
  ·rename_i hs
   injection hx with hx
   injection hx with h1 h2
   subst h1 h2
   obtain⟨pc,p1,p2,p3,p4⟩:=hc
   have cf:∀b,¬iL b pc:=noT pc (by rintro sz a cap xs rfl;rw[<-p1] at hs;simp[PC.dr,C.dT] at hs)
   have zZ:BV w pc:=by
    cases pc with
    |list sz a cap xs=>rw[<-p1] at hs;simp[PC.dr,C.dT] at hs
    |_=>trivial
   exact⟨pc,p1,p2,⟨⟨p3,(Sep.kA (by rw[p1];exact hs)).1,zZ⟩,fun b hb=>absurd hb (cf b)⟩,fun n hn=>by simp at hn⟩
  ·cases hx
 |nil sz=>
  simp only[Am.kC] at hx
  split at hx
  ·rename_i eu
   injection hx with hx
   injection hx with h1 h2
   subst h1 h2
   have ct:v=.slice none 0 0:=hc
   subst ct
   have jO:Sep (.list sz none 0 []):=by
    refine .list _ _ _ _ ?_ ?_ ?_
    ·rintro k j c ⟨e,he,_⟩;simp at he
    ·rintro b o k j c _ ⟨e,he,_⟩;simp at he
    ·rintro k j c k' j' c' b ⟨e,he,_⟩;simp at he
   refine⟨.list sz none 0 [],by simp[PC.dr],rfl,⟨⟨.nil _ _ _ eu,jO,eu,by simp,.inl rfl⟩,fun b hb=>?_⟩,fun n hn=>by simp at hn⟩
   rcases hb with hb|⟨_,_,_,_,hb,tj⟩
   ·rw[aM.jZ] at hb
    rcases hb with⟨hb,_⟩|⟨k,j,c,⟨e,he,_⟩,_⟩
    ·exact absurd rfl hb
    ·simp at he
   ·cases hb
  ·cases hx
 |sl n sz lo len=>
  cases lo with
  |succ lo=>simp[Am.kC] at hx
  |zero=>
   simp only[Am.kC] at hx
   split at hx
   ·rename_i m rs xs hn
    split at hx
    ·rename_i cz
     obtain⟨rfl,hm,hl⟩:=cz
     injection hx with hx
     injection hx with h1 h2
     subst h1 h2
     have bM:h n≠none:=by rw[hn];simp
     have hr:=H.row n true m rs xs hn
     have hs:jg (G.g n) rs 0 len v:=hc bM
     obtain⟨a1,a2,a3,a4⟩:=D2 hr hs (by omega)
     have qG:(∀b,aP b (G.g n).px->dk w b/\B<=b)/\gS (G.g n).px/\(∀b,aP b (G.g n).px->(G.g n).nl=false->b≠(G.g n).b):=by
      have cR:=hr.mode
      cases m with
      |aA=>exact absurd rfl hm
      |ae=>exact⟨fun b hb=>⟨(cR.1 b hb).2.1,(cR.1 b hb).2.2.resolve_right id⟩,cR.2,fun b hb hl du=>(H.own n bM hl).1 (du▸(cR.1 b hb).1)⟩
      |live=>exact⟨fun b hb=>⟨(cR.1 b hb).2.1,(cR.1 b hb).2.2.resolve_right id⟩,cR.2,fun b hb hl=>H.live n true rs xs hn b hb n bM hl⟩
     obtain⟨o1,o2,o3⟩:=qG
     refine⟨j0 (G.g n) rs 0 len v,by simpa using a1,a2,?_,fun q hq=>?_⟩
     ·rcases hs with⟨aK,rfl,_,rfl⟩|⟨aK,ad',rfl,jL,had⟩
      ·simp only[j0] at a3⊢
       have hz:(List.take 0 (List.drop 0 (G.g n).px))=[]:=by simp
       have uL:=(hr.nl aK).2 rfl
       rw[hz,uL] at a3⊢
       have jO:Sep (.list rs (G.g n).na 0 []):=by
        refine .list _ _ _ _ ?_ ?_ ?_
        ·rintro k j c ⟨e,he,_⟩;simp at he
        ·rintro b o k j c _ ⟨e,he,_⟩;simp at he
        ·rintro k j c k' j' c' b ⟨e,he,_⟩;simp at he
       refine⟨⟨a3,jO,hr.pos,by simp,.inl rfl⟩,fun b hb=>?_⟩
       rcases hb with hb|⟨_,_,_,_,hb,tj⟩
       ·rw[aM.jZ] at hb
        rcases hb with⟨hb,_⟩|⟨k,j,c,⟨e,he,_⟩,_⟩
        ·exact absurd rfl hb
        ·simp at he
       ·injection hb with _ _ hb _;exact absurd hb.symm tj
      ·obtain⟨r2,cur,e,r3,r4⟩:=hr.room aK rfl
       have e0:=had (.inr rfl)
       have e0':ad'=some (ad (G.g n).b (G.g n).o):=by rw[e0];simp
       subst e0'
       simp only[j0,Nat.sub_zero] at a3 a4⊢
       have CY:=o2.sub 0 len
       have eO:∀k j c,At ((List.drop 0 (G.g n).px).take len) k j c->At (G.g n).px k j c:=fun k j c hk=>by have:=(nU hk).1;simpa using this
       refine⟨⟨a3,.list _ _ _ _ CY.1 (fun b o k j c eE hk hb=>?_) CY.2,hr.pos,by simp;omega,.inr ⟨_,_,cur,e,rfl,r3,r4,r2,fun k j c hk hb=>?_⟩⟩,fun b hb=>?_⟩
       ·injection eE with eE
        exact o3 b ⟨_,_,_,eO _ _ _ hk,hb⟩ aK (nb eE).1.symm
       ·exact o3 _ ⟨_,_,_,eO _ _ _ hk,hb⟩ aK rfl
       ·have hf:nj G n b:=by
         rcases hb with hb|⟨_,_,_,_,hb,tj⟩
         ·exact a4 b hb
         ·injection hb with _ hb _ _
          injection hb with hb
          exact .inl ⟨aK,(nb hb).1.symm⟩
        refine⟨?_,n,by simp,hf⟩
        rcases hf with⟨_,rfl⟩|hF
        ·exact⟨((H.own n bM aK).2.1).resolve_right id,(hr.dB aK).1⟩
        ·exact⟨(o1 b hF).2,(o1 b hF).1⟩
     ·simp at hq
      subst hq
      exact⟨_,_,_,_,hn,hm⟩
    ·cases hx
   ·cases hx
 |ptr _ _ _ _=>simp[Am.kC] at hx
 |cd _ _=>simp[Am.kC] at hx
 |bx _ _ _ _ _ _=>simp[Am.kC] at hx
 |fn _ _=>simp[Am.kC] at hx
 |cD _ _ _ _ _ _=>simp[Am.kC] at hx
 |bf=>simp[Am.kC] at hx
structure rq (B:Nat) (w:World) (G:Gh) (h:Nat->Option aq) (ns:List Nat) (ps:List PC):Prop where
 each:∀pc∈ps,SO B w G h ns pc
 mz:ns.Nodup->ps.Pairwise fun p q=>∀b,iL b p->¬iL b q
theorem rq.append (H:HR B Ex.no w G h used []) {ns jB:List Nat} {ps Yj:List PC} (h1:rq B w G h ns ps) (h2:rq B w G h jB Yj) (n1:sT h ns) (n2:sT h jB):rq B w G h (ns++jB) (ps++Yj):=by
 refine⟨fun pc aV=>?_,fun hd=>?_⟩
 ·rcases List.mem_append.1 aV with hp|hp
  ·obtain⟨g,n⟩:=h1.each pc hp
   exact⟨g,fun b hb=>⟨(n b hb).1,by obtain⟨k,hk,hf⟩:=(n b hb).2;exact⟨k,by simp[hk],hf⟩⟩⟩
  ·obtain⟨g,n⟩:=h2.each pc hp
   exact⟨g,fun b hb=>⟨(n b hb).1,by obtain⟨k,hk,hf⟩:=(n b hb).2;exact⟨k,by simp[hk],hf⟩⟩⟩
 ·rw[List.nodup_append] at hd
  rw[List.pairwise_append]
  refine⟨h1.mz hd.1,h2.mz hd.2.1,fun p hp q hq b hb aR=>?_⟩
  obtain⟨k,hk,hf⟩:=((h1.each p hp).new b hb).2
  obtain⟨k',cW,jM⟩:=((h2.each q hq).new b aR).2
  obtain⟨_,_,_,_,e1,m1⟩:=n1 k hk
  obtain⟨_,_,_,_,e2,m2⟩:=n2 k' cW
  exact H.UU (hd.2.2 k hk k' cW) e1 e2 m1 m2 hf jM
theorem sT.append {ns jB:List Nat} (h1:sT h ns) (h2:sT h jB):sT h (ns++jB):=fun n hn=>(List.mem_append.1 hn).elim (h1 n) (h2 n)
theorem HR.sD (H:HR B Ex.no w G h used []):∀{cs:List ai} {xs:List C} {ns:List Nat} {vs:List Value},sD h cs=some (xs,ns)->cA w G h cs vs->
  ∃bu:List PC,bu.map PC.er=xs/\bu.map PC.val=vs/\rq B w G h ns bu/\sT h ns
 |[],xs,ns,vs,hx,hc=>by
  simp only[Am.sD] at hx
  injection hx with hx
  injection hx with h1 h2
  subst h1 h2
  have:vs=[]:=List.eq_nil_of_length_eq_zero (by simpa using hc.1)
  subst this
  exact⟨[],rfl,rfl,⟨by simp,fun _=>List.Pairwise.nil⟩,fun n hn=>by simp at hn⟩
 |c::cs,xs,ns,vs,hx,hc=>by
  simp only[Am.sD] at hx
  split at hx
  ·rename_i x XY ar XZ e1 e2
   injection hx with hx
   injection hx with h1 h2
   subst h1 h2
   obtain⟨hlen,bO⟩:=hc
   match vs,hlen with
   |v::vs,hlen=>
    obtain⟨pc,a1,a2,a3,a4⟩:=H.kC e1 (bO 0 c v rfl rfl).2
    obtain⟨bu,b1,b2,b3,b4⟩:=H.sD e2 (cs:=cs) (vs:=vs) ⟨by simpa using hlen,fun j c u h1 h2=>bO (j+1) c u h1 h2⟩
    have CU:rq B w G h XY [pc]:=⟨fun q hq=>by simp at hq;subst hq;exact a3,fun _=>by simp⟩
    exact⟨pc::bu,by simp[a1,b1],by simp[a2,b2],rq.append H CU b3 a4 b4,a4.append b4⟩
  ·cases hx
theorem HR.pQ (H:HR B Ex.no w G h used []):∀{xs:List ak} {ds:List Dv} {ns:List Nat} {vs:List Value},pQ h xs=some (ds,ns)->vs.length=xs.length->
  (∀(j:Nat) (x:ak) (v:Value),xs[j]? =some x->vs[j]? =some v->RA w G h x v)->
  ∃aO:List (K×List PC),aO.map (fun p=>(p.1,p.2.map PC.er))=ds/\aO.map pR=vs/\(∀p∈aO,p.1≠ .ptr/\(p.1=.one->p.2.length=1))/\rq B w G h ns (aO.flatMap (·.2))/\sT h ns
 |[],ds,ns,vs,hx,hl,hc=>by
  simp only[Am.pQ] at hx
  injection hx with hx
  injection hx with h1 h2
  subst h1 h2
  have:vs=[]:=List.eq_nil_of_length_eq_zero (by simpa using hl)
  subst this
  exact⟨[],rfl,rfl,by simp,⟨by simp,fun _=>List.Pairwise.nil⟩,fun n hn=>by simp at hn⟩
 |x::xs,ds,ns,vs,hx,hl,hc=>by
  simp only[Am.pQ] at hx
  split at hx
  ·rename_i ag cs jK
   split at hx
   ·rename_i ys XY xa XZ e1 e2
    injection hx with hx
    injection hx with h1 h2
    subst h1 h2
    match vs,hl with
    |v::vs,hl=>
     obtain⟨bu,a1,a2,a3,a4⟩:=H.sD e1 ((hc 0 x v rfl rfl).cells jK)
     obtain⟨aO,b1,b2,b3,b4,b5⟩:=H.pQ e2 (xs:=xs) (vs:=vs) (by simpa using hl) (fun j x v h1 h2=>hc (j+1) x v h1 h2)
     have CD:=hc 0 x v rfl rfl
     cases ag with
     |true=>
      have hv:pR (K.agg,bu)=v:=by
       cases x with
       |one c=>cases c<;>simp[ak.cells?] at jK
       |agg cs'=>
        obtain⟨us,e,_⟩:∃us:List Value,v=.agg us.toArray/\cA w G h cs' us:=CD
        subst e
        simp only[pR,a2]
        simp[Value.cells]
       |bn l=>simp[ak.cells?] at jK
      refine⟨(K.agg,bu)::aO,by simp[a1,b1],by simp[hv,b2],fun p hp=>?_,?_,a4.append b5⟩
      ·cases hp with
       |head=>exact⟨by simp,fun e=>by cases e⟩
       |tail _ hp=>exact b3 p hp
      ·simpa using rq.append H a3 b4 a4 b5
     |false=>
      have CJ:∃c,x=.one c/\cs=[c]:=by
       cases x with
       |one c=>cases c<;>simp[ak.cells?] at jK<;>exact⟨_,rfl,jK.symm⟩
       |agg cs'=>simp[ak.cells?] at jK
       |bn l=>simp[ak.cells?] at jK
      obtain⟨c,rfl,rfl⟩:=CJ
      have fJ:c≠ .bf:=by rintro rfl;simp[ak.cells?] at jK
      have h1c:=(CD.fb fJ).2
      have xv:v.cells.toList=[v]:=by cases v<;>first|rfl|(simp[Value.oneCell'] at h1c)
      rw[xv] at a2
      match bu,a2 with
      |[pc],a2=>
       have hv:pR (K.one,[pc])=v:=by simpa[pR] using a2
       refine⟨(K.one,[pc])::aO,by simp[<-a1,b1],by simp[hv,b2],fun p hp=>?_,?_,a4.append b5⟩
       ·cases hp with
        |head=>exact⟨by simp,fun _=>rfl⟩
        |tail _ hp=>exact b3 p hp
       ·simpa using rq.append H a3 b4 a4 b5
   ·cases hx
  ·cases hx
end
end Go.Am
