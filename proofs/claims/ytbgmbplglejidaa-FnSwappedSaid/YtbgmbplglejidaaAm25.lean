/- Am25: what a function returns. No condition. -/
import Derived.Test.YtbgmbplglejidaaAm24
set_option linter.unusedVariables false
namespace Go.Am
inductive bD where
 |tmp (t:Nat)
 |cell (t sz:Nat) (ag:Bool)
def nK (P:Program):List ResultVar->List bD->Bool
 |[],[]=>true
 |.tmp t::rs,.tmp t'::ms=>(t==t')&&nK P rs ms
 |.cell a ty::rs,.cell a' sz ag::ms=>(a==a')&&qF P ty ag sz&&nK P rs ms
 |_,_=>false
def St.sG (σ:St):List bD->Option (List ak)
 |[]=>some []
 |.tmp t::ms=>match σ.sG ms with
  |some vs=>some (σ.env t::vs)
  |none=>none
 |.cell t sz ag::ms=>match σ.env t with
  |.one p=>match loadAt σ.h p sz,σ.sG ms with
   |some cs,some vs=>some (ma ag cs::vs)
   |_,_=>none
  |_=>none
def lU (h:Nat->Option ar):aj->Option (C×List Nat)
 |.c x=>if x.eV=true then some (x,[]) else none
 |.nil sz=>if 0<sz then some (.list sz [],[]) else none
 |.sl n sz 0 len=>match h n with
  |some (.row true m rs xs)=>if rs=sz/\m≠ .aG/\len<=xs.length then some (.list sz (xs.take len),[n]) else none
  |_=>none
 |_=>none
def tZ (h:Nat->Option ar):List aj->Option (List C×List Nat)
 |[]=>some ([],[])
 |c::cs=>match lU h c,tZ h cs with
  |some (x,ns),some (xs,kH)=>some (x::xs,ns++kH)
  |_,_=>none
def rv (h:Nat->Option ar):List ak->Option (List Dv×List Nat)
 |[]=>some ([],[])
 |v::vs=>match v.cells? with
  |some (ag,cs)=>match tZ h cs,rv h vs with
   |some (xs,ns),some (ds,kH)=>some ((if ag=true then(K.agg,xs) else(K.one,xs))::ds,ns++kH)
   |_,_=>none
  |none=>none
def St.tY (σ:St) (ms:List bD):Option (List Dv):=
 match σ.sG ms with
 |some vs=>match rv σ.h vs with
  |some (ds,ns)=>if ns.Nodup then some ds else none
  |none=>none
 |none=>none
section
variable {B:Nat} {E:Ex} {w0 w w':World} {G G':Gh} {N:Nat} {h h':Nat->Option ar} {used:Nat->Bool}
variable {P:Program} {T:aT} {a:Act} {σ σ':St}
def nO (G:Gh) (n b:Nat):Prop:=((G.g n).nl=false/\b=(G.g n).b)\/aZ b (G.g n).px
theorem HR.Z1 (H:HR B E w G h used []) {n n':Nat} (aD:n≠n') {gr bo:Bool} {m m':Mode} {sz aJ:Nat} {xs au:List (List C)} (h1:h n=some (.row gr m sz xs)) (h2:h n'=some (.row bo m' aJ au))
  (hm:m≠ .aG) (bO:m'≠ .aG) {b:Nat} (hb:nO G n b):¬nO G n' b:=by
 have e1:h n≠none:=by rw[h1];simp
 have e2:h n'≠none:=by rw[h2];simp
 have own:∀{p q:Nat} {gr:Bool} {m:Mode} {sz:Nat} {xs:List (List C)},h p≠none->h q=some (.row gr m sz xs)->m≠ .aG->(G.g p).nl=false->¬aZ (G.g p).b (G.g q).px:=by
  intro p q gr m sz xs hp hq hm hl hF
  have gx:=(H.row q gr m sz xs hq).mode
  cases m with
  |aG=>exact hm rfl
  |ae=>exact(H.own p hp hl).1 (gx.1 _ hF).1
  |live=>exact H.live q gr sz xs hq _ hF p hp hl rfl
 rintro(⟨l2,rfl⟩|b2)
 ·rcases hb with⟨l1,b1⟩|b1
  ·exact H.inj n n' e1 e2 aD l1 l2 b1.symm
  ·exact own e2 h1 hm l2 b1
 ·rcases hb with⟨l1,rfl⟩|b1
  ·exact own e1 h2 bO l1 b2
  ·exact H.fV n n' gr m sz xs bo m' aJ au h1 h2 hm bO aD b b1 b2
structure XL (B:Nat) (w:World) (G:Gh) (h:Nat->Option ar) (ns:List Nat) (pc:PC):Prop where
 eD:Good w pc/\Sep pc/\Ed w pc
 new:∀b,ju b pc->(B<=b/\dK w b)/\∃n∈ns,nO G n b
def uu (h:Nat->Option ar) (ns:List Nat):Prop:=∀n∈ns,∃gr m sz xs,h n=some (.row gr m sz xs)/\m≠ .aG
theorem HR.lU (H:HR B Ex.no w G h used []) {c:aj} {x:C} {ns:List Nat} {v:Value} (hx:lU h c=some (x,ns)) (hc:RC w G h c v):
  ∃pc:PC,pc.er=x/\pc.val=v/\XL B w G h ns pc/\uu h ns:=by
 have noT:∀pc:PC,(∀sz a cap xs,pc≠ .list sz a cap xs)->∀b,¬ju b pc:=by
  intro pc hp b hb
  rcases hb with hb|⟨sz,o,cap,xs,rfl,_⟩
  ·cases hb with
   |here sz o cap xs h=>exact hp _ _ _ _ rfl
   |there sz a cap xs k j c h1 h2=>exact hp _ _ _ _ rfl
  ·exact hp _ _ _ _ rfl
 cases c with
 |c y=>
  simp only[Am.lU] at hx
  split at hx
  ·rename_i hs
   injection hx with hx
   injection hx with h1 h2
   subst h1 h2
   obtain⟨pc,p1,p2,p3,p4⟩:=hc
   have cm:∀b,¬ju b pc:=noT pc (by rintro sz a cap xs rfl;rw[<-p1] at hs;simp[PC.dR,C.eV] at hs)
   have Co:Ed w pc:=by
    cases pc with
    |list sz a cap xs=>rw[<-p1] at hs;simp[PC.dR,C.eV] at hs
    |_=>trivial
   exact⟨pc,p1,p2,⟨⟨p3,(Sep.lS (by rw[p1];exact hs)).1,Co⟩,fun b hb=>absurd hb (cm b)⟩,fun n hn=>by simp at hn⟩
  ·cases hx
 |nil sz=>
  simp only[Am.lU] at hx
  split at hx
  ·rename_i dU
   injection hx with hx
   injection hx with h1 h2
   subst h1 h2
   have cA:v=.slice none 0 0:=hc
   subst cA
   have kS:Sep (.list sz none 0 []):=by
    refine .list _ _ _ _ ?_ ?_ ?_
    ·rintro k j c ⟨e,he,_⟩;simp at he
    ·rintro b o k j c _ ⟨e,he,_⟩;simp at he
    ·rintro k j c k' j' c' b ⟨e,he,_⟩;simp at he
   refine⟨.list sz none 0 [],by simp[PC.dR],rfl,⟨⟨.nil _ _ _ dU,kS,dU,by simp,.inl rfl⟩,fun b hb=>?_⟩,fun n hn=>by simp at hn⟩
   rcases hb with hb|⟨_,_,_,_,hb,uU⟩
   ·rw[aX.lm] at hb
    rcases hb with⟨hb,_⟩|⟨k,j,c,⟨e,he,_⟩,_⟩
    ·exact absurd rfl hb
    ·simp at he
   ·cases hb
  ·cases hx
 |sl n sz lo len=>
  cases lo with
  |succ lo=>simp[Am.lU] at hx
  |zero=>
   simp only[Am.lU] at hx
   split at hx
   ·rename_i m rs xs hn
    split at hx
    ·rename_i cV
     obtain⟨rfl,hm,hl⟩:=cV
     injection hx with hx
     injection hx with h1 h2
     subst h1 h2
     have bS:h n≠none:=by rw[hn];simp
     have hr:=H.row n true m rs xs hn
     have hs:jO (G.g n) rs 0 len v:=hc bS
     obtain⟨a1,a2,a3,a4⟩:=Gr hr hs (by omega)
     have si:(∀b,aZ b (G.g n).px->dK w b/\B<=b)/\iI (G.g n).px/\(∀b,aZ b (G.g n).px->(G.g n).nl=false->b≠(G.g n).b):=by
      have dd:=hr.mode
      cases m with
      |aG=>exact absurd rfl hm
      |ae=>exact⟨fun b hb=>⟨(dd.1 b hb).2.1,(dd.1 b hb).2.2.resolve_right id⟩,dd.2,fun b hb hl ez=>(H.own n bS hl).1 (ez▸(dd.1 b hb).1)⟩
      |live=>exact⟨fun b hb=>⟨(dd.1 b hb).2.1,(dd.1 b hb).2.2.resolve_right id⟩,dd.2,fun b hb hl=>H.live n true rs xs hn b hb n bS hl⟩
     obtain⟨o1,o2,o3⟩:=si
     refine⟨lp (G.g n) rs 0 len v,by simpa using a1,a2,?_,fun q hq=>?_⟩
     ·rcases hs with⟨aN,rfl,_,rfl⟩|⟨aN,ad',rfl,jQ,had⟩
      ·simp only[lp] at a3⊢
       have hz:(List.take 0 (List.drop 0 (G.g n).px))=[]:=by simp
       have ww:=(hr.nl aN).2 rfl
       rw[hz,ww] at a3⊢
       have kS:Sep (.list rs (G.g n).na 0 []):=by
        refine .list _ _ _ _ ?_ ?_ ?_
        ·rintro k j c ⟨e,he,_⟩;simp at he
        ·rintro b o k j c _ ⟨e,he,_⟩;simp at he
        ·rintro k j c k' j' c' b ⟨e,he,_⟩;simp at he
       refine⟨⟨a3,kS,hr.pos,by simp,.inl rfl⟩,fun b hb=>?_⟩
       rcases hb with hb|⟨_,_,_,_,hb,uU⟩
       ·rw[aX.lm] at hb
        rcases hb with⟨hb,_⟩|⟨k,j,c,⟨e,he,_⟩,_⟩
        ·exact absurd rfl hb
        ·simp at he
       ·injection hb with _ _ hb _;exact absurd hb.symm uU
      ·obtain⟨r2,cur,e,r3,r4⟩:=hr.room aN rfl
       have e0:=had (.inr rfl)
       have e0':ad'=some (ad (G.g n).b (G.g n).o):=by rw[e0];simp
       subst e0'
       simp only[lp,Nat.sub_zero] at a3 a4⊢
       have Fq:=o2.sub 0 len
       have fq:∀k j c,At ((List.drop 0 (G.g n).px).take len) k j c->At (G.g n).px k j c:=fun k j c hk=>by have:=(pC hk).1;simpa using this
       refine⟨⟨a3,.list _ _ _ _ Fq.1 (fun b o k j c e8 hk hb=>?_) Fq.2,hr.pos,by simp;omega,.inr ⟨_,_,cur,e,rfl,r3,r4,r2,fun k j c hk hb=>?_⟩⟩,fun b hb=>?_⟩
       ·injection e8 with e8
        exact o3 b ⟨_,_,_,fq _ _ _ hk,hb⟩ aN (nG e8).1.symm
       ·exact o3 _ ⟨_,_,_,fq _ _ _ hk,hb⟩ aN rfl
       ·have hf:nO G n b:=by
         rcases hb with hb|⟨_,_,_,_,hb,uU⟩
         ·exact a4 b hb
         ·injection hb with _ hb _ _
          injection hb with hb
          exact .inl ⟨aN,(nG hb).1.symm⟩
        refine⟨?_,n,by simp,hf⟩
        rcases hf with⟨_,rfl⟩|hF
        ·exact⟨((H.own n bS aN).2.1).resolve_right id,(hr.dW aN).1⟩
        ·exact⟨(o1 b hF).2,(o1 b hF).1⟩
     ·simp at hq
      subst hq
      exact⟨_,_,_,_,hn,hm⟩
    ·cases hx
   ·cases hx
 |ptr _ _ _ _=>simp[Am.lU] at hx
 |cH _ _=>simp[Am.lU] at hx
 |bE _ _ _ _ _ _=>simp[Am.lU] at hx
 |fn _ _=>simp[Am.lU] at hx
 |c7 _ _ _ _ _ _=>simp[Am.lU] at hx
 |bq=>simp[Am.lU] at hx
structure sY (B:Nat) (w:World) (G:Gh) (h:Nat->Option ar) (ns:List Nat) (ps:List PC):Prop where
 each:∀pc∈ps,XL B w G h ns pc
 nM:ns.Nodup->ps.Pairwise fun p q=>∀b,ju b p->¬ju b q
theorem sY.append (H:HR B Ex.no w G h used []) {ns kH:List Nat} {ps ps':List PC} (h1:sY B w G h ns ps) (h2:sY B w G h kH ps') (n1:uu h ns) (n2:uu h kH):sY B w G h (ns++kH) (ps++ps'):=by
 refine⟨fun pc bc=>?_,fun hd=>?_⟩
 ·rcases List.mem_append.1 bc with hp|hp
  ·obtain⟨g,n⟩:=h1.each pc hp
   exact⟨g,fun b hb=>⟨(n b hb).1,by obtain⟨k,hk,hf⟩:=(n b hb).2;exact⟨k,by simp[hk],hf⟩⟩⟩
  ·obtain⟨g,n⟩:=h2.each pc hp
   exact⟨g,fun b hb=>⟨(n b hb).1,by obtain⟨k,hk,hf⟩:=(n b hb).2;exact⟨k,by simp[hk],hf⟩⟩⟩
 ·rw[List.nodup_append] at hd
  rw[List.pairwise_append]
  refine⟨h1.nM hd.1,h2.nM hd.2.1,fun p hp q hq b hb be=>?_⟩
  obtain⟨k,hk,hf⟩:=((h1.each p hp).new b hb).2
  obtain⟨k',cI,kR⟩:=((h2.each q hq).new b be).2
  obtain⟨_,_,_,_,e1,m1⟩:=n1 k hk
  obtain⟨_,_,_,_,e2,m2⟩:=n2 k' cI
  exact H.Z1 (hd.2.2 k hk k' cI) e1 e2 m1 m2 hf kR
theorem uu.append {ns kH:List Nat} (h1:uu h ns) (h2:uu h kH):uu h (ns++kH):=fun n hn=>(List.mem_append.1 hn).elim (h1 n) (h2 n)
theorem HR.tZ (H:HR B Ex.no w G h used []):∀{cs:List aj} {xs:List C} {ns:List Nat} {vs:List Value},tZ h cs=some (xs,ns)->cZ w G h cs vs->
  ∃bx:List PC,bx.map PC.er=xs/\bx.map PC.val=vs/\sY B w G h ns bx/\uu h ns
 |[],xs,ns,vs,hx,hc=>by
  simp only[Am.tZ] at hx
  injection hx with hx
  injection hx with h1 h2
  subst h1 h2
  have:vs=[]:=List.eq_nil_of_length_eq_zero (by simpa using hc.1)
  subst this
  exact⟨[],rfl,rfl,⟨by simp,fun _=>List.Pairwise.nil⟩,fun n hn=>by simp at hn⟩
 |c::cs,xs,ns,vs,hx,hc=>by
  simp only[Am.tZ] at hx
  split at hx
  ·rename_i x ns1 au ns2 e1 e2
   injection hx with hx
   injection hx with h1 h2
   subst h1 h2
   obtain⟨hlen,bU⟩:=hc
   match vs,hlen with
   |v::vs,hlen=>
    obtain⟨pc,a1,a2,a3,a4⟩:=H.lU e1 (bU 0 c v rfl rfl).2
    obtain⟨bx,b1,b2,b3,b4⟩:=H.tZ e2 (cs:=cs) (vs:=vs) ⟨by simpa using hlen,fun j c u h1 h2=>bU (j+1) c u h1 h2⟩
    have Fl:sY B w G h ns1 [pc]:=⟨fun q hq=>by simp at hq;subst hq;exact a3,fun _=>by simp⟩
    exact⟨pc::bx,by simp[a1,b1],by simp[a2,b2],sY.append H Fl b3 a4 b4,a4.append b4⟩
  ·cases hx
theorem HR.rv (H:HR B Ex.no w G h used []):∀{xs:List ak} {ds:List Dv} {ns:List Nat} {vs:List Value},rv h xs=some (ds,ns)->vs.length=xs.length->
  (∀(j:Nat) (x:ak) (v:Value),xs[j]? =some x->vs[j]? =some v->RA w G h x v)->
  ∃aY:List (K×List PC),aY.map (fun p=>(p.1,p.2.map PC.er))=ds/\aY.map ry=vs/\(∀p∈aY,p.1≠ .ptr/\(p.1=.one->p.2.length=1))/\sY B w G h ns (aY.flatMap (·.2))/\uu h ns
 |[],ds,ns,vs,hx,hl,hc=>by
  simp only[Am.rv] at hx
  injection hx with hx
  injection hx with h1 h2
  subst h1 h2
  have:vs=[]:=List.eq_nil_of_length_eq_zero (by simpa using hl)
  subst this
  exact⟨[],rfl,rfl,by simp,⟨by simp,fun _=>List.Pairwise.nil⟩,fun n hn=>by simp at hn⟩
 |x::xs,ds,ns,vs,hx,hl,hc=>by
  simp only[Am.rv] at hx
  split at hx
  ·rename_i ag cs kN
   split at hx
   ·rename_i ys ns1 uH ns2 e1 e2
    injection hx with hx
    injection hx with h1 h2
    subst h1 h2
    match vs,hl with
    |v::vs,hl=>
     obtain⟨bx,a1,a2,a3,a4⟩:=H.tZ e1 ((hc 0 x v rfl rfl).cells kN)
     obtain⟨aY,b1,b2,b3,b4,b5⟩:=H.rv e2 (xs:=xs) (vs:=vs) (by simpa using hl) (fun j x v h1 h2=>hc (j+1) x v h1 h2)
     have EY:=hc 0 x v rfl rfl
     cases ag with
     |true=>
      have hv:ry (K.agg,bx)=v:=by
       cases x with
       |one c=>cases c<;>simp[ak.cells?] at kN
       |agg cs'=>
        obtain⟨us,e,_⟩:∃us:List Value,v=.agg us.toArray/\cZ w G h cs' us:=EY
        subst e
        simp only[ry,a2]
        simp[Value.cells]
       |br l=>simp[ak.cells?] at kN
      refine⟨(K.agg,bx)::aY,by simp[a1,b1],by simp[hv,b2],fun p hp=>?_,?_,a4.append b5⟩
      ·cases hp with
       |head=>exact⟨by simp,fun e=>by cases e⟩
       |tail _ hp=>exact b3 p hp
      ·simpa using sY.append H a3 b4 a4 b5
     |false=>
      have E4:∃c,x=.one c/\cs=[c]:=by
       cases x with
       |one c=>cases c<;>simp[ak.cells?] at kN<;>exact⟨_,rfl,kN.symm⟩
       |agg cs'=>simp[ak.cells?] at kN
       |br l=>simp[ak.cells?] at kN
      obtain⟨c,rfl,rfl⟩:=E4
      have gG:c≠ .bq:=by rintro rfl;simp[ak.cells?] at kN
      have h1c:=(EY.fS gG).2
      have y7:v.cells.toList=[v]:=by cases v<;>first|rfl|(simp[Value.oneCell'] at h1c)
      rw[y7] at a2
      match bx,a2 with
      |[pc],a2=>
       have hv:ry (K.one,[pc])=v:=by simpa[ry] using a2
       refine⟨(K.one,[pc])::aY,by simp[<-a1,b1],by simp[hv,b2],fun p hp=>?_,?_,a4.append b5⟩
       ·cases hp with
        |head=>exact⟨by simp,fun _=>rfl⟩
        |tail _ hp=>exact b3 p hp
       ·simpa using sY.append H a3 b4 a4 b5
   ·cases hx
  ·cases hx
end
end Go.Am
