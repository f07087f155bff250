/- Am25: what a function returns. No condition. -/
import Derived.Test.YtifmggmhdcdgbaaAm24
set_option linter.unusedVariables false
namespace Go.Am
inductive bG where
 |tmp (t:Nat)
 |cell (t sz:Nat) (ag:Bool)
def mH (P:Program):List ResultVar->List bG->Bool
 |[],[]=>true
 |.tmp t::rs,.tmp t'::ms=>(t==t')&&mH P rs ms
 |.cell a ty::rs,.cell a' sz ag::ms=>(a==a')&&pu P ty ag sz&&mH P rs ms
 |_,_=>false
def St.rK (σ:St):List bG->Option (List aj)
 |[]=>some []
 |.tmp t::ms=>match σ.rK ms with
  |some vs=>some (σ.env t::vs)
  |none=>none
 |.cell t sz ag::ms=>match σ.env t with
  |.one p=>match loadAt σ.h p sz,σ.rK ms with
   |some cs,some vs=>some (kQ ag cs::vs)
   |_,_=>none
  |_=>none
def kL (h:Nat->Option ar):ai->Option (C×List Nat)
 |.c x=>if x.d7=true then some (x,[]) else none
 |.nil sz=>if 0<sz then some (.list sz [],[]) else none
 |.sl n sz 0 len=>match h n with
  |some (.row true m rs xs)=>if rs=sz/\m≠ .aA/\len<=xs.length then some (.list sz (xs.take len),[n]) else none
  |_=>none
 |_=>none
def tG (h:Nat->Option ar):List ai->Option (List C×List Nat)
 |[]=>some ([],[])
 |c::cs=>match kL h c,tG h cs with
  |some (x,ns),some (xs,jR)=>some (x::xs,ns++jR)
  |_,_=>none
def qA (h:Nat->Option ar):List aj->Option (List Dv×List Nat)
 |[]=>some ([],[])
 |v::vs=>match v.cells? with
  |some (ag,cs)=>match tG h cs,qA h vs with
   |some (xs,ns),some (ds,jR)=>some ((if ag=true then(K.agg,xs) else(K.one,xs))::ds,ns++jR)
   |_,_=>none
  |none=>none
def St.tF (σ:St) (ms:List bG):Option (List Dv):=
 match σ.rK ms with
 |some vs=>match qA σ.h vs with
  |some (ds,ns)=>if ns.Nodup then some ds else none
  |none=>none
 |none=>none
section
variable {B:Nat} {E:Ex} {w0 w w':World} {G G':Gh} {N:Nat} {h h':Nat->Option ar} {used:Nat->Bool}
variable {P:Program} {T:bj} {a:Act} {σ σ':St}
def nJ (G:Gh) (n b:Nat):Prop:=((G.g n).nl=false/\b=(G.g n).b)\/aS b (G.g n).px
theorem HR.Xs (H:HR B E w G h used []) {n n':Nat} (ax:n≠n') {gr bk:Bool} {m m':Mode} {sz aK:Nat} {xs av:List (List C)} (h1:h n=some (.row gr m sz xs)) (h2:h n'=some (.row bk m' aK av))
  (hm:m≠ .aA) (bB:m'≠ .aA) {b:Nat} (hb:nJ G n b):¬nJ G n' b:=by
 have e1:h n≠none:=by rw[h1];simp
 have e2:h n'≠none:=by rw[h2];simp
 have own:∀{p q:Nat} {gr:Bool} {m:Mode} {sz:Nat} {xs:List (List C)},h p≠none->h q=some (.row gr m sz xs)->m≠ .aA->(G.g p).nl=false->¬aS (G.g p).b (G.g q).px:=by
  intro p q gr m sz xs hp hq hm hl hF
  have gD:=(H.row q gr m sz xs hq).mode
  cases m with
  |aA=>exact hm rfl
  |ab=>exact(H.own p hp hl).1 (gD.1 _ hF).1
  |live=>exact H.live q gr sz xs hq _ hF p hp hl rfl
 rintro(⟨l2,rfl⟩|b2)
 ·rcases hb with⟨l1,b1⟩|b1
  ·exact H.inj n n' e1 e2 ax l1 l2 b1.symm
  ·exact own e2 h1 hm l2 b1
 ·rcases hb with⟨l1,rfl⟩|b1
  ·exact own e1 h2 bB l1 b2
  ·exact H.fv n n' gr m sz xs bk m' aK av h1 h2 hm bB ax b b1 b2
structure Vo (B:Nat) (w:World) (G:Gh) (h:Nat->Option ar) (ns:List Nat) (pc:PC):Prop where
 eD:Good w pc/\Sep pc/\CY w pc
 new:∀b,jh b pc->(B<=b/\dr w b)/\∃n∈ns,nJ G n b
def tV (h:Nat->Option ar) (ns:List Nat):Prop:=∀n∈ns,∃gr m sz xs,h n=some (.row gr m sz xs)/\m≠ .aA
theorem HR.kL (H:HR B Ex.no w G h used []) {c:ai} {x:C} {ns:List Nat} {v:Value} (hx:kL h c=some (x,ns)) (hc:RC w G h c v):
  ∃pc:PC,pc.er=x/\pc.val=v/\Vo B w G h ns pc/\tV h ns:=by
 have noT:∀pc:PC,(∀sz a cap xs,pc≠ .list sz a cap xs)->∀b,¬jh b pc:=by
  intro pc hp b hb
  rcases hb with hb|⟨sz,o,cap,xs,rfl,_⟩
  ·cases hb with
   |here sz o cap xs h=>exact hp _ _ _ _ rfl
   |there sz a cap xs k j c h1 h2=>exact hp _ _ _ _ rfl
  ·exact hp _ _ _ _ rfl
 cases c with
 |c y=>
  simp only[Am.kL] at hx
  split at hx
  ·rename_i hs
   injection hx with hx
   injection hx with h1 h2
   subst h1 h2
   obtain⟨pc,p1,p2,p3,p4⟩:=hc
   have cb:∀b,¬jh b pc:=noT pc (by rintro sz a cap xs rfl;rw[<-p1] at hs;simp[PC.dz,C.d7] at hs)
   have AU:CY w pc:=by
    cases pc with
    |list sz a cap xs=>rw[<-p1] at hs;simp[PC.dz,C.d7] at hs
    |_=>trivial
   exact⟨pc,p1,p2,⟨⟨p3,(Sep.kK (by rw[p1];exact hs)).1,AU⟩,fun b hb=>absurd hb (cb b)⟩,fun n hn=>by simp at hn⟩
  ·cases hx
 |nil sz=>
  simp only[Am.kL] at hx
  split at hx
  ·rename_i eE
   injection hx with hx
   injection hx with h1 h2
   subst h1 h2
   have cj:v=.slice none 0 0:=hc
   subst cj
   have j4:Sep (.list sz none 0 []):=by
    refine .list _ _ _ _ ?_ ?_ ?_
    ·rintro k j c ⟨e,he,_⟩;simp at he
    ·rintro b o k j c _ ⟨e,he,_⟩;simp at he
    ·rintro k j c k' j' c' b ⟨e,he,_⟩;simp at he
   refine⟨.list sz none 0 [],by simp[PC.dz],rfl,⟨⟨.nil _ _ _ eE,j4,eE,by simp,.inl rfl⟩,fun b hb=>?_⟩,fun n hn=>by simp at hn⟩
   rcases hb with hb|⟨_,_,_,_,hb,uo⟩
   ·rw[aP.ka] at hb
    rcases hb with⟨hb,_⟩|⟨k,j,c,⟨e,he,_⟩,_⟩
    ·exact absurd rfl hb
    ·simp at he
   ·cases hb
  ·cases hx
 |sl n sz lo len=>
  cases lo with
  |succ lo=>simp[Am.kL] at hx
  |zero=>
   simp only[Am.kL] at hx
   split at hx
   ·rename_i m rs xs hn
    split at hx
    ·rename_i cu
     obtain⟨rfl,hm,hl⟩:=cu
     injection hx with hx
     injection hx with h1 h2
     subst h1 h2
     have bJ:h n≠none:=by rw[hn];simp
     have hr:=H.row n true m rs xs hn
     have hs:jF (G.g n) rs 0 len v:=hc bJ
     obtain⟨a1,a2,a3,a4⟩:=Fj hr hs (by omega)
     have rn:(∀b,aS b (G.g n).px->dr w b/\B<=b)/\g7 (G.g n).px/\(∀b,aS b (G.g n).px->(G.g n).nl=false->b≠(G.g n).b):=by
      have cJ:=hr.mode
      cases m with
      |aA=>exact absurd rfl hm
      |ab=>exact⟨fun b hb=>⟨(cJ.1 b hb).2.1,(cJ.1 b hb).2.2.resolve_right id⟩,cJ.2,fun b hb hl dm=>(H.own n bJ hl).1 (dm▸(cJ.1 b hb).1)⟩
      |live=>exact⟨fun b hb=>⟨(cJ.1 b hb).2.1,(cJ.1 b hb).2.2.resolve_right id⟩,cJ.2,fun b hb hl=>H.live n true rs xs hn b hb n bJ hl⟩
     obtain⟨o1,o2,o3⟩:=rn
     refine⟨kb (G.g n) rs 0 len v,by simpa using a1,a2,?_,fun q hq=>?_⟩
     ·rcases hs with⟨aM,rfl,_,rfl⟩|⟨aM,ad',rfl,jZ,had⟩
      ·simp only[kb] at a3⊢
       have hz:(List.take 0 (List.drop 0 (G.g n).px))=[]:=by simp
       have vR:=(hr.nl aM).2 rfl
       rw[hz,vR] at a3⊢
       have j4:Sep (.list rs (G.g n).na 0 []):=by
        refine .list _ _ _ _ ?_ ?_ ?_
        ·rintro k j c ⟨e,he,_⟩;simp at he
        ·rintro b o k j c _ ⟨e,he,_⟩;simp at he
        ·rintro k j c k' j' c' b ⟨e,he,_⟩;simp at he
       refine⟨⟨a3,j4,hr.pos,by simp,.inl rfl⟩,fun b hb=>?_⟩
       rcases hb with hb|⟨_,_,_,_,hb,uo⟩
       ·rw[aP.ka] at hb
        rcases hb with⟨hb,_⟩|⟨k,j,c,⟨e,he,_⟩,_⟩
        ·exact absurd rfl hb
        ·simp at he
       ·injection hb with _ _ hb _;exact absurd hb.symm uo
      ·obtain⟨r2,cur,e,r3,r4⟩:=hr.room aM rfl
       have e0:=had (.inr rfl)
       have e0':ad'=some (ad (G.g n).b (G.g n).o):=by rw[e0];simp
       subst e0'
       simp only[kb,Nat.sub_zero] at a3 a4⊢
       have D7:=o2.sub 0 len
       have eT:∀k j c,At ((List.drop 0 (G.g n).px).take len) k j c->At (G.g n).px k j c:=fun k j c hk=>by have:=(oG hk).1;simpa using this
       refine⟨⟨a3,.list _ _ _ _ D7.1 (fun b o k j c eK hk hb=>?_) D7.2,hr.pos,by simp;omega,.inr ⟨_,_,cur,e,rfl,r3,r4,r2,fun k j c hk hb=>?_⟩⟩,fun b hb=>?_⟩
       ·injection eK with eK
        exact o3 b ⟨_,_,_,eT _ _ _ hk,hb⟩ aM (nz eK).1.symm
       ·exact o3 _ ⟨_,_,_,eT _ _ _ hk,hb⟩ aM rfl
       ·have hf:nJ G n b:=by
         rcases hb with hb|⟨_,_,_,_,hb,uo⟩
         ·exact a4 b hb
         ·injection hb with _ hb _ _
          injection hb with hb
          exact .inl ⟨aM,(nz hb).1.symm⟩
        refine⟨?_,n,by simp,hf⟩
        rcases hf with⟨_,rfl⟩|hF
        ·exact⟨((H.own n bJ aM).2.1).resolve_right id,(hr.dD aM).1⟩
        ·exact⟨(o1 b hF).2,(o1 b hF).1⟩
     ·simp at hq
      subst hq
      exact⟨_,_,_,_,hn,hm⟩
    ·cases hx
   ·cases hx
 |ptr _ _ _ _=>simp[Am.kL] at hx
 |ca _ _=>simp[Am.kL] at hx
 |bx _ _ _ _ _ _=>simp[Am.kL] at hx
 |fn _ _=>simp[Am.kL] at hx
 |cD _ _ _ _ _ _=>simp[Am.kL] at hx
 |bh=>simp[Am.kL] at hx
structure r6 (B:Nat) (w:World) (G:Gh) (h:Nat->Option ar) (ns:List Nat) (ps:List PC):Prop where
 each:∀pc∈ps,Vo B w G h ns pc
 mI:ns.Nodup->ps.Pairwise fun p q=>∀b,jh b p->¬jh b q
theorem r6.append (H:HR B Ex.no w G h used []) {ns jR:List Nat} {ps ps':List PC} (h1:r6 B w G h ns ps) (h2:r6 B w G h jR ps') (n1:tV h ns) (n2:tV h jR):r6 B w G h (ns++jR) (ps++ps'):=by
 refine⟨fun pc aZ=>?_,fun hd=>?_⟩
 ·rcases List.mem_append.1 aZ with hp|hp
  ·obtain⟨g,n⟩:=h1.each pc hp
   exact⟨g,fun b hb=>⟨(n b hb).1,by obtain⟨k,hk,hf⟩:=(n b hb).2;exact⟨k,by simp[hk],hf⟩⟩⟩
  ·obtain⟨g,n⟩:=h2.each pc hp
   exact⟨g,fun b hb=>⟨(n b hb).1,by obtain⟨k,hk,hf⟩:=(n b hb).2;exact⟨k,by simp[hk],hf⟩⟩⟩
 ·rw[List.nodup_append] at hd
  rw[List.pairwise_append]
  refine⟨h1.mI hd.1,h2.mI hd.2.1,fun p hp q hq b hb aT=>?_⟩
  obtain⟨k,hk,hf⟩:=((h1.each p hp).new b hb).2
  obtain⟨k',cX,j0⟩:=((h2.each q hq).new b aT).2
  obtain⟨_,_,_,_,e1,m1⟩:=n1 k hk
  obtain⟨_,_,_,_,e2,m2⟩:=n2 k' cX
  exact H.Xs (hd.2.2 k hk k' cX) e1 e2 m1 m2 hf j0
theorem tV.append {ns jR:List Nat} (h1:tV h ns) (h2:tV h jR):tV h (ns++jR):=fun n hn=>(List.mem_append.1 hn).elim (h1 n) (h2 n)
theorem HR.tG (H:HR B Ex.no w G h used []):∀{cs:List ai} {xs:List C} {ns:List Nat} {vs:List Value},tG h cs=some (xs,ns)->cA w G h cs vs->
  ∃bu:List PC,bu.map PC.er=xs/\bu.map PC.val=vs/\r6 B w G h ns bu/\tV h ns
 |[],xs,ns,vs,hx,hc=>by
  simp only[Am.tG] at hx
  injection hx with hx
  injection hx with h1 h2
  subst h1 h2
  have:vs=[]:=List.eq_nil_of_length_eq_zero (by simpa using hc.1)
  subst this
  exact⟨[],rfl,rfl,⟨by simp,fun _=>List.Pairwise.nil⟩,fun n hn=>by simp at hn⟩
 |c::cs,xs,ns,vs,hx,hc=>by
  simp only[Am.tG] at hx
  split at hx
  ·rename_i x ns1 av ns2 e1 e2
   injection hx with hx
   injection hx with h1 h2
   subst h1 h2
   obtain⟨hlen,bI⟩:=hc
   match vs,hlen with
   |v::vs,hlen=>
    obtain⟨pc,a1,a2,a3,a4⟩:=H.kL e1 (bI 0 c v rfl rfl).2
    obtain⟨bu,b1,b2,b3,b4⟩:=H.tG e2 (cs:=cs) (vs:=vs) ⟨by simpa using hlen,fun j c u h1 h2=>bI (j+1) c u h1 h2⟩
    have D2:r6 B w G h ns1 [pc]:=⟨fun q hq=>by simp at hq;subst hq;exact a3,fun _=>by simp⟩
    exact⟨pc::bu,by simp[a1,b1],by simp[a2,b2],r6.append H D2 b3 a4 b4,a4.append b4⟩
  ·cases hx
theorem HR.qA (H:HR B Ex.no w G h used []):∀{xs:List aj} {ds:List Dv} {ns:List Nat} {vs:List Value},qA h xs=some (ds,ns)->vs.length=xs.length->
  (∀(j:Nat) (x:aj) (v:Value),xs[j]? =some x->vs[j]? =some v->RA w G h x v)->
  ∃aR:List (K×List PC),aR.map (fun p=>(p.1,p.2.map PC.er))=ds/\aR.map qB=vs/\(∀p∈aR,p.1≠ .ptr/\(p.1=.one->p.2.length=1))/\r6 B w G h ns (aR.flatMap (·.2))/\tV h ns
 |[],ds,ns,vs,hx,hl,hc=>by
  simp only[Am.qA] at hx
  injection hx with hx
  injection hx with h1 h2
  subst h1 h2
  have:vs=[]:=List.eq_nil_of_length_eq_zero (by simpa using hl)
  subst this
  exact⟨[],rfl,rfl,by simp,⟨by simp,fun _=>List.Pairwise.nil⟩,fun n hn=>by simp at hn⟩
 |x::xs,ds,ns,vs,hx,hl,hc=>by
  simp only[Am.qA] at hx
  split at hx
  ·rename_i ag cs jX
   split at hx
   ·rename_i ys ns1 yg ns2 e1 e2
    injection hx with hx
    injection hx with h1 h2
    subst h1 h2
    match vs,hl with
    |v::vs,hl=>
     obtain⟨bu,a1,a2,a3,a4⟩:=H.tG e1 ((hc 0 x v rfl rfl).cells jX)
     obtain⟨aR,b1,b2,b3,b4,b5⟩:=H.qA e2 (xs:=xs) (vs:=vs) (by simpa using hl) (fun j x v h1 h2=>hc (j+1) x v h1 h2)
     have DD:=hc 0 x v rfl rfl
     cases ag with
     |true=>
      have hv:qB (K.agg,bu)=v:=by
       cases x with
       |one c=>cases c<;>simp[aj.cells?] at jX
       |agg cs'=>
        obtain⟨us,e,_⟩:∃us:List Value,v=.agg us.toArray/\cA w G h cs' us:=DD
        subst e
        simp only[qB,a2]
        simp[Value.cells]
       |bn l=>simp[aj.cells?] at jX
      refine⟨(K.agg,bu)::aR,by simp[a1,b1],by simp[hv,b2],fun p hp=>?_,?_,a4.append b5⟩
      ·cases hp with
       |head=>exact⟨by simp,fun e=>by cases e⟩
       |tail _ hp=>exact b3 p hp
      ·simpa using r6.append H a3 b4 a4 b5
     |false=>
      have DK:∃c,x=.one c/\cs=[c]:=by
       cases x with
       |one c=>cases c<;>simp[aj.cells?] at jX<;>exact⟨_,rfl,jX.symm⟩
       |agg cs'=>simp[aj.cells?] at jX
       |bn l=>simp[aj.cells?] at jX
      obtain⟨c,rfl,rfl⟩:=DK
      have fU:c≠ .bh:=by rintro rfl;simp[aj.cells?] at jX
      have h1c:=(DD.fq fU).2
      have yC:v.cells.toList=[v]:=by cases v<;>first|rfl|(simp[Value.oneCell'] at h1c)
      rw[yC] at a2
      match bu,a2 with
      |[pc],a2=>
       have hv:qB (K.one,[pc])=v:=by simpa[qB] using a2
       refine⟨(K.one,[pc])::aR,by simp[<-a1,b1],by simp[hv,b2],fun p hp=>?_,?_,a4.append b5⟩
       ·cases hp with
        |head=>exact⟨by simp,fun _=>rfl⟩
        |tail _ hp=>exact b3 p hp
       ·simpa using r6.append H a3 b4 a4 b5
   ·cases hx
  ·cases hx
end
end Go.Am
