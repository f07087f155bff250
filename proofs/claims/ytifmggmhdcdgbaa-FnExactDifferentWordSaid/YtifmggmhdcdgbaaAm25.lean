/- Am25: what a function returns. No condition. -/
import Derived.Test.YtifmggmhdcdgbaaAm24
set_option linter.unusedVariables false
namespace Go.Am
inductive bx where
 |tmp (t:Nat)
 |cell (t sz:Nat) (ag:Bool)
def mw (P:Program):List ResultVar->List bx->Bool
 |[],[]=>true
 |.tmp t::rs,.tmp t'::ms=>(t==t')&&mw P rs ms
 |.cell a ty::rs,.cell a' sz ag::ms=>(a==a')&&pf P ty ag sz&&mw P rs ms
 |_,_=>false
def St.rl (σ:St):List bx->Option (List ai)
 |[]=>some []
 |.tmp t::ms=>match σ.rl ms with
  |some vs=>some (σ.env t::vs)
  |none=>none
 |.cell t sz ag::ms=>match σ.env t with
  |.one p=>match loadAt σ.h p sz,σ.rl ms with
   |some cs,some vs=>some (kC ag cs::vs)
   |_,_=>none
  |_=>none
def ky (h:Nat->Option ar):ah->Option (C×List Nat)
 |.c x=>if x.dR=true then some (x,[]) else none
 |.nil sz=>if 0<sz then some (.list sz [],[]) else none
 |.sl n sz 0 len=>match h n with
  |some (.row true m rs xs)=>if rs=sz/\m≠ .aE/\len<=xs.length then some (.list sz (xs.take len),[n]) else none
  |_=>none
 |_=>none
def sY (h:Nat->Option ar):List ah->Option (List C×List Nat)
 |[]=>some ([],[])
 |c::cs=>match ky h c,sY h cs with
  |some (x,ns),some (xs,jr)=>some (x::xs,ns++jr)
  |_,_=>none
def qb (h:Nat->Option ar):List ai->Option (List Dv×List Nat)
 |[]=>some ([],[])
 |v::vs=>match v.cells? with
  |some (ag,cs)=>match sY h cs,qb h vs with
   |some (xs,ns),some (ds,jr)=>some ((if ag=true then(K.agg,xs) else(K.one,xs))::ds,ns++jr)
   |_,_=>none
  |none=>none
def St.sW (σ:St) (ms:List bx):Option (List Dv):=
 match σ.rl ms with
 |some vs=>match qb σ.h vs with
  |some (ds,ns)=>if ns.Nodup then some ds else none
  |none=>none
 |none=>none
section
variable {B:Nat} {E:Ex} {w0 w w':World} {G G':Gh} {N:Nat} {h h':Nat->Option ar} {used:Nat->Bool}
variable {P:Program} {T:be} {a:Act} {σ σ':St}
def np (G:Gh) (n b:Nat):Prop:=((G.g n).nl=false/\b=(G.g n).b)\/aR b (G.g n).px
theorem HR.WQ (H:HR B E w G h used []) {n n':Nat} (aA:n≠n') {gr bf:Bool} {m m':Mode} {sz aK:Nat} {xs au:List (List C)} (h1:h n=some (.row gr m sz xs)) (h2:h n'=some (.row bf m' aK au))
  (hm:m≠ .aE) (bz:m'≠ .aE) {b:Nat} (hb:np G n b):¬np G n' b:=by
 have e1:h n≠none:=by rw[h1];simp
 have e2:h n'≠none:=by rw[h2];simp
 have own:∀{p q:Nat} {gr:Bool} {m:Mode} {sz:Nat} {xs:List (List C)},h p≠none->h q=some (.row gr m sz xs)->m≠ .aE->(G.g p).nl=false->¬aR (G.g p).b (G.g q).px:=by
  intro p q gr m sz xs hp hq hm hl hF
  have gf:=(H.row q gr m sz xs hq).mode
  cases m with
  |aE=>exact hm rfl
  |aa=>exact(H.own p hp hl).1 (gf.1 _ hF).1
  |live=>exact H.live q gr sz xs hq _ hF p hp hl rfl
 rintro(⟨l2,rfl⟩|b2)
 ·rcases hb with⟨l1,b1⟩|b1
  ·exact H.inj n n' e1 e2 aA l1 l2 b1.symm
  ·exact own e2 h1 hm l2 b1
 ·rcases hb with⟨l1,rfl⟩|b1
  ·exact own e1 h2 bz l1 b2
  ·exact H.e7 n n' gr m sz xs bf m' aK au h1 h2 hm bz aA b b1 b2
structure UU (B:Nat) (w:World) (G:Gh) (h:Nat->Option ar) (ns:List Nat) (pc:PC):Prop where
 dF:Good w pc/\Sep pc/\Co w pc
 new:∀b,iF b pc->(B<=b/\da w b)/\∃n∈ns,np G n b
def ti (h:Nat->Option ar) (ns:List Nat):Prop:=∀n∈ns,∃gr m sz xs,h n=some (.row gr m sz xs)/\m≠ .aE
theorem HR.ky (H:HR B Ex.no w G h used []) {c:ah} {x:C} {ns:List Nat} {v:Value} (hx:ky h c=some (x,ns)) (hc:RC w G h c v):
  ∃pc:PC,pc.er=x/\pc.val=v/\UU B w G h ns pc/\ti h ns:=by
 have noT:∀pc:PC,(∀sz a cap xs,pc≠ .list sz a cap xs)->∀b,¬iF b pc:=by
  intro pc hp b hb
  rcases hb with hb|⟨sz,o,cap,xs,rfl,_⟩
  ·cases hb with
   |here sz o cap xs h=>exact hp _ _ _ _ rfl
   |there sz a cap xs k j c h1 h2=>exact hp _ _ _ _ rfl
  ·exact hp _ _ _ _ rfl
 cases c with
 |c y=>
  simp only[Am.ky] at hx
  split at hx
  ·rename_i hs
   injection hx with hx
   injection hx with h1 h2
   subst h1 h2
   obtain⟨pc,p1,p2,p3,p4⟩:=hc
   have ca:∀b,¬iF b pc:=noT pc (by rintro sz a cap xs rfl;rw[<-p1] at hs;simp[PC.df,C.dR] at hs)
   have Ao:Co w pc:=by
    cases pc with
    |list sz a cap xs=>rw[<-p1] at hs;simp[PC.df,C.dR] at hs
    |_=>trivial
   exact⟨pc,p1,p2,⟨⟨p3,(Sep.kx (by rw[p1];exact hs)).1,Ao⟩,fun b hb=>absurd hb (ca b)⟩,fun n hn=>by simp at hn⟩
  ·cases hx
 |nil sz=>
  simp only[Am.ky] at hx
  split at hx
  ·rename_i d9
   injection hx with hx
   injection hx with h1 h2
   subst h1 h2
   have cz:v=.slice none 0 0:=hc
   subst cz
   have jE:Sep (.list sz none 0 []):=by
    refine .list _ _ _ _ ?_ ?_ ?_
    ·rintro k j c ⟨e,he,_⟩;simp at he
    ·rintro b o k j c _ ⟨e,he,_⟩;simp at he
    ·rintro k j c k' j' c' b ⟨e,he,_⟩;simp at he
   refine⟨.list sz none 0 [],by simp[PC.df],rfl,⟨⟨.nil _ _ _ d9,jE,d9,by simp,.inl rfl⟩,fun b hb=>?_⟩,fun n hn=>by simp at hn⟩
   rcases hb with hb|⟨_,_,_,_,hb,tG⟩
   ·rw[aN.jP] at hb
    rcases hb with⟨hb,_⟩|⟨k,j,c,⟨e,he,_⟩,_⟩
    ·exact absurd rfl hb
    ·simp at he
   ·cases hb
  ·cases hx
 |sl n sz lo len=>
  cases lo with
  |succ lo=>simp[Am.ky] at hx
  |zero=>
   simp only[Am.ky] at hx
   split at hx
   ·rename_i m rs xs hn
    split at hx
    ·rename_i cd
     obtain⟨rfl,hm,hl⟩:=cd
     injection hx with hx
     injection hx with h1 h2
     subst h1 h2
     have bF:h n≠none:=by rw[hn];simp
     have hr:=H.row n true m rs xs hn
     have hs:jc (G.g n) rs 0 len v:=hc bF
     obtain⟨a1,a2,a3,a4⟩:=EM hr hs (by omega)
     have qP:(∀b,aR b (G.g n).px->da w b/\B<=b)/\gI (G.g n).px/\(∀b,aR b (G.g n).px->(G.g n).nl=false->b≠(G.g n).b):=by
      have cA:=hr.mode
      cases m with
      |aE=>exact absurd rfl hm
      |aa=>exact⟨fun b hb=>⟨(cA.1 b hb).2.1,(cA.1 b hb).2.2.resolve_right id⟩,cA.2,fun b hb hl dh=>(H.own n bF hl).1 (dh▸(cA.1 b hb).1)⟩
      |live=>exact⟨fun b hb=>⟨(cA.1 b hb).2.1,(cA.1 b hb).2.2.resolve_right id⟩,cA.2,fun b hb hl=>H.live n true rs xs hn b hb n bF hl⟩
     obtain⟨o1,o2,o3⟩:=qP
     refine⟨jQ (G.g n) rs 0 len v,by simpa using a1,a2,?_,fun q hq=>?_⟩
     ·rcases hs with⟨aL,rfl,_,rfl⟩|⟨aL,ad',rfl,jA,had⟩
      ·simp only[jQ] at a3⊢
       have hz:(List.take 0 (List.drop 0 (G.g n).px))=[]:=by simp
       have vi:=(hr.nl aL).2 rfl
       rw[hz,vi] at a3⊢
       have jE:Sep (.list rs (G.g n).na 0 []):=by
        refine .list _ _ _ _ ?_ ?_ ?_
        ·rintro k j c ⟨e,he,_⟩;simp at he
        ·rintro b o k j c _ ⟨e,he,_⟩;simp at he
        ·rintro k j c k' j' c' b ⟨e,he,_⟩;simp at he
       refine⟨⟨a3,jE,hr.pos,by simp,.inl rfl⟩,fun b hb=>?_⟩
       rcases hb with hb|⟨_,_,_,_,hb,tG⟩
       ·rw[aN.jP] at hb
        rcases hb with⟨hb,_⟩|⟨k,j,c,⟨e,he,_⟩,_⟩
        ·exact absurd rfl hb
        ·simp at he
       ·injection hb with _ _ hb _;exact absurd hb.symm tG
      ·obtain⟨r2,cur,e,r3,r4⟩:=hr.room aL rfl
       have e0:=had (.inr rfl)
       have e0':ad'=some (ad (G.g n).b (G.g n).o):=by rw[e0];simp
       subst e0'
       simp only[jQ,Nat.sub_zero] at a3 a4⊢
       have Dw:=o2.sub 0 len
       have eT:∀k j c,At ((List.drop 0 (G.g n).px).take len) k j c->At (G.g n).px k j c:=fun k j c hk=>by have:=(n7 hk).1;simpa using this
       refine⟨⟨a3,.list _ _ _ _ Dw.1 (fun b o k j c eK hk hb=>?_) Dw.2,hr.pos,by simp;omega,.inr ⟨_,_,cur,e,rfl,r3,r4,r2,fun k j c hk hb=>?_⟩⟩,fun b hb=>?_⟩
       ·injection eK with eK
        exact o3 b ⟨_,_,_,eT _ _ _ hk,hb⟩ aL (nc eK).1.symm
       ·exact o3 _ ⟨_,_,_,eT _ _ _ hk,hb⟩ aL rfl
       ·have hf:np G n b:=by
         rcases hb with hb|⟨_,_,_,_,hb,tG⟩
         ·exact a4 b hb
         ·injection hb with _ hb _ _
          injection hb with hb
          exact .inl ⟨aL,(nc hb).1.symm⟩
        refine⟨?_,n,by simp,hf⟩
        rcases hf with⟨_,rfl⟩|hF
        ·exact⟨((H.own n bF aL).2.1).resolve_right id,(hr.dq aL).1⟩
        ·exact⟨(o1 b hF).2,(o1 b hF).1⟩
     ·simp at hq
      subst hq
      exact⟨_,_,_,_,hn,hm⟩
    ·cases hx
   ·cases hx
 |ptr _ _ _ _=>simp[Am.ky] at hx
 |bT _ _=>simp[Am.ky] at hx
 |br _ _ _ _ _ _=>simp[Am.ky] at hx
 |fn _ _=>simp[Am.ky] at hx
 |cr _ _ _ _ _ _=>simp[Am.ky] at hx
 |bg=>simp[Am.ky] at hx
structure rF (B:Nat) (w:World) (G:Gh) (h:Nat->Option ar) (ns:List Nat) (ps:List PC):Prop where
 each:∀pc∈ps,UU B w G h ns pc
 mz:ns.Nodup->ps.Pairwise fun p q=>∀b,iF b p->¬iF b q
theorem rF.append (H:HR B Ex.no w G h used []) {ns jr:List Nat} {ps Z8:List PC} (h1:rF B w G h ns ps) (h2:rF B w G h jr Z8) (n1:ti h ns) (n2:ti h jr):rF B w G h (ns++jr) (ps++Z8):=by
 refine⟨fun pc aZ=>?_,fun hd=>?_⟩
 ·rcases List.mem_append.1 aZ with hp|hp
  ·obtain⟨g,n⟩:=h1.each pc hp
   exact⟨g,fun b hb=>⟨(n b hb).1,by obtain⟨k,hk,hf⟩:=(n b hb).2;exact⟨k,by simp[hk],hf⟩⟩⟩
  ·obtain⟨g,n⟩:=h2.each pc hp
   exact⟨g,fun b hb=>⟨(n b hb).1,by obtain⟨k,hk,hf⟩:=(n b hb).2;exact⟨k,by simp[hk],hf⟩⟩⟩
 ·rw[List.nodup_append] at hd
  rw[List.pairwise_append]
  refine⟨h1.mz hd.1,h2.mz hd.2.1,fun p hp q hq b hb aU=>?_⟩
  obtain⟨k,hk,hf⟩:=((h1.each p hp).new b hb).2
  obtain⟨k',cM,jB⟩:=((h2.each q hq).new b aU).2
  obtain⟨_,_,_,_,e1,m1⟩:=n1 k hk
  obtain⟨_,_,_,_,e2,m2⟩:=n2 k' cM
  exact H.WQ (hd.2.2 k hk k' cM) e1 e2 m1 m2 hf jB
theorem ti.append {ns jr:List Nat} (h1:ti h ns) (h2:ti h jr):ti h (ns++jr):=fun n hn=>(List.mem_append.1 hn).elim (h1 n) (h2 n)
theorem HR.sY (H:HR B Ex.no w G h used []):∀{cs:List ah} {xs:List C} {ns:List Nat} {vs:List Value},sY h cs=some (xs,ns)->cj w G h cs vs->
  ∃bo:List PC,bo.map PC.er=xs/\bo.map PC.val=vs/\rF B w G h ns bo/\ti h ns
 |[],xs,ns,vs,hx,hc=>by
  simp only[Am.sY] at hx
  injection hx with hx
  injection hx with h1 h2
  subst h1 h2
  have:vs=[]:=List.eq_nil_of_length_eq_zero (by simpa using hc.1)
  subst this
  exact⟨[],rfl,rfl,⟨by simp,fun _=>List.Pairwise.nil⟩,fun n hn=>by simp at hn⟩
 |c::cs,xs,ns,vs,hx,hc=>by
  simp only[Am.sY] at hx
  split at hx
  ·rename_i x ZQ au ZR e1 e2
   injection hx with hx
   injection hx with h1 h2
   subst h1 h2
   obtain⟨hlen,bZ⟩:=hc
   match vs,hlen with
   |v::vs,hlen=>
    obtain⟨pc,a1,a2,a3,a4⟩:=H.ky e1 (bZ 0 c v rfl rfl).2
    obtain⟨bo,b1,b2,b3,b4⟩:=H.sY e2 (cs:=cs) (vs:=vs) ⟨by simpa using hlen,fun j c u h1 h2=>bZ (j+1) c u h1 h2⟩
    have Dp:rF B w G h ZQ [pc]:=⟨fun q hq=>by simp at hq;subst hq;exact a3,fun _=>by simp⟩
    exact⟨pc::bo,by simp[a1,b1],by simp[a2,b2],rF.append H Dp b3 a4 b4,a4.append b4⟩
  ·cases hx
theorem HR.qb (H:HR B Ex.no w G h used []):∀{xs:List ai} {ds:List Dv} {ns:List Nat} {vs:List Value},qb h xs=some (ds,ns)->vs.length=xs.length->
  (∀(j:Nat) (x:ai) (v:Value),xs[j]? =some x->vs[j]? =some v->RA w G h x v)->
  ∃aO:List (K×List PC),aO.map (fun p=>(p.1,p.2.map PC.er))=ds/\aO.map qc=vs/\(∀p∈aO,p.1≠ .ptr/\(p.1=.one->p.2.length=1))/\rF B w G h ns (aO.flatMap (·.2))/\ti h ns
 |[],ds,ns,vs,hx,hl,hc=>by
  simp only[Am.qb] at hx
  injection hx with hx
  injection hx with h1 h2
  subst h1 h2
  have:vs=[]:=List.eq_nil_of_length_eq_zero (by simpa using hl)
  subst this
  exact⟨[],rfl,rfl,by simp,⟨by simp,fun _=>List.Pairwise.nil⟩,fun n hn=>by simp at hn⟩
 |x::xs,ds,ns,vs,hx,hl,hc=>by
  simp only[Am.qb] at hx
  split at hx
  ·rename_i ag cs jw
   split at hx
   ·rename_i ys ZQ xE ZR e1 e2
    injection hx with hx
    injection hx with h1 h2
    subst h1 h2
    match vs,hl with
    |v::vs,hl=>
     obtain⟨bo,a1,a2,a3,a4⟩:=H.sY e1 ((hc 0 x v rfl rfl).cells jw)
     obtain⟨aO,b1,b2,b3,b4,b5⟩:=H.qb e2 (xs:=xs) (vs:=vs) (by simpa using hl) (fun j x v h1 h2=>hc (j+1) x v h1 h2)
     have C2:=hc 0 x v rfl rfl
     cases ag with
     |true=>
      have hv:qc (K.agg,bo)=v:=by
       cases x with
       |one c=>cases c<;>simp[ai.cells?] at jw
       |agg cs'=>
        obtain⟨us,e,_⟩:∃us:List Value,v=.agg us.toArray/\cj w G h cs' us:=C2
        subst e
        simp only[qc,a2]
        simp[Value.cells]
       |bj l=>simp[ai.cells?] at jw
      refine⟨(K.agg,bo)::aO,by simp[a1,b1],by simp[hv,b2],fun p hp=>?_,?_,a4.append b5⟩
      ·cases hp with
       |head=>exact⟨by simp,fun e=>by cases e⟩
       |tail _ hp=>exact b3 p hp
      ·simpa using rF.append H a3 b4 a4 b5
     |false=>
      have C9:∃c,x=.one c/\cs=[c]:=by
       cases x with
       |one c=>cases c<;>simp[ai.cells?] at jw<;>exact⟨_,rfl,jw.symm⟩
       |agg cs'=>simp[ai.cells?] at jw
       |bj l=>simp[ai.cells?] at jw
      obtain⟨c,rfl,rfl⟩:=C9
      have fG:c≠ .bg:=by rintro rfl;simp[ai.cells?] at jw
      have h1c:=(C2.eX fG).2
      have xY:v.cells.toList=[v]:=by cases v<;>first|rfl|(simp[Value.oneCell'] at h1c)
      rw[xY] at a2
      match bo,a2 with
      |[pc],a2=>
       have hv:qc (K.one,[pc])=v:=by simpa[qc] using a2
       refine⟨(K.one,[pc])::aO,by simp[<-a1,b1],by simp[hv,b2],fun p hp=>?_,?_,a4.append b5⟩
       ·cases hp with
        |head=>exact⟨by simp,fun _=>rfl⟩
        |tail _ hp=>exact b3 p hp
       ·simpa using rF.append H a3 b4 a4 b5
   ·cases hx
  ·cases hx
end
end Go.Am
