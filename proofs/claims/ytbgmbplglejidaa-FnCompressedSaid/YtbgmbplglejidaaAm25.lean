/- Am25: what a function returns. No condition. -/
import Derived.Test.YtbgmbplglejidaaAm24
set_option linter.unusedVariables false
namespace Go.Am
inductive bC where
 |tmp (t:Nat)
 |cell (t sz:Nat) (ag:Bool)
def nE (P:Program):List ResultVar->List bC->Bool
 |[],[]=>true
 |.tmp t::rs,.tmp t'::ms=>(t==t')&&nE P rs ms
 |.cell a ty::rs,.cell a' sz ag::ms=>(a==a')&&qw P ty ag sz&&nE P rs ms
 |_,_=>false
def St.sB (σ:St):List bC->Option (List aj)
 |[]=>some []
 |.tmp t::ms=>match σ.sB ms with
  |some vs=>some (σ.env t::vs)
  |none=>none
 |.cell t sz ag::ms=>match σ.env t with
  |.one p=>match loadAt σ.h p sz,σ.sB ms with
   |some cs,some vs=>some (lO ag cs::vs)
   |_,_=>none
  |_=>none
def lI (h:Nat->Option ao):ah->Option (C×List Nat)
 |.c x=>if x.eR=true then some (x,[]) else none
 |.nil sz=>if 0<sz then some (.list sz [],[]) else none
 |.sl n sz 0 len=>match h n with
  |some (.row true m rs xs)=>if rs=sz/\m≠ .aF/\len<=xs.length then some (.list sz (xs.take len),[n]) else none
  |_=>none
 |_=>none
def tG (h:Nat->Option ao):List ah->Option (List C×List Nat)
 |[]=>some ([],[])
 |c::cs=>match lI h c,tG h cs with
  |some (x,ns),some (xs,ki)=>some (x::xs,ns++ki)
  |_,_=>none
def rn (h:Nat->Option ao):List aj->Option (List Dv×List Nat)
 |[]=>some ([],[])
 |v::vs=>match v.cells? with
  |some (ag,cs)=>match tG h cs,rn h vs with
   |some (xs,ns),some (ds,ki)=>some ((if ag=true then(K.agg,xs) else(K.one,xs))::ds,ns++ki)
   |_,_=>none
  |none=>none
def St.tF (σ:St) (ms:List bC):Option (List Dv):=
 match σ.sB ms with
 |some vs=>match rn σ.h vs with
  |some (ds,ns)=>if ns.Nodup then some ds else none
  |none=>none
 |none=>none
section
variable {B:Nat} {E:Ex} {w0 w w':World} {G G':Gh} {N:Nat} {h h':Nat->Option ao} {used:Nat->Bool}
variable {P:Program} {T:aO} {a:Act} {σ σ':St}
def nG (G:Gh) (n b:Nat):Prop:=((G.g n).nl=false/\b=(G.g n).b)\/aX b (G.g n).px
theorem HR.YU (H:HR B E w G h used []) {n n':Nat} (aC:n≠n') {gr bm:Bool} {m m':Mode} {sz aJ:Nat} {xs aq:List (List C)} (h1:h n=some (.row gr m sz xs)) (h2:h n'=some (.row bm m' aJ aq))
  (hm:m≠ .aF) (bM:m'≠ .aF) {b:Nat} (hb:nG G n b):¬nG G n' b:=by
 have e1:h n≠none:=by rw[h1];simp
 have e2:h n'≠none:=by rw[h2];simp
 have own:∀{p q:Nat} {gr:Bool} {m:Mode} {sz:Nat} {xs:List (List C)},h p≠none->h q=some (.row gr m sz xs)->m≠ .aF->(G.g p).nl=false->¬aX (G.g p).b (G.g q).px:=by
  intro p q gr m sz xs hp hq hm hl hF
  have gf:=(H.row q gr m sz xs hq).mode
  cases m with
  |aF=>exact hm rfl
  |ab=>exact(H.own p hp hl).1 (gf.1 _ hF).1
  |live=>exact H.live q gr sz xs hq _ hF p hp hl rfl
 rintro(⟨l2,rfl⟩|b2)
 ·rcases hb with⟨l1,b1⟩|b1
  ·exact H.inj n n' e1 e2 aC l1 l2 b1.symm
  ·exact own e2 h1 hm l2 b1
 ·rcases hb with⟨l1,rfl⟩|b1
  ·exact own e1 h2 bM l1 b2
  ·exact H.fI n n' gr m sz xs bm m' aJ aq h1 h2 hm bM aC b b1 b2
structure Wz (B:Nat) (w:World) (G:Gh) (h:Nat->Option ao) (ns:List Nat) (pc:PC):Prop where
 eA:Good w pc/\Sep pc/\Dp w pc
 new:∀b,jb b pc->(B<=b/\dH w b)/\∃n∈ns,nG G n b
def tT (h:Nat->Option ao) (ns:List Nat):Prop:=∀n∈ns,∃gr m sz xs,h n=some (.row gr m sz xs)/\m≠ .aF
theorem HR.lI (H:HR B Ex.no w G h used []) {c:ah} {x:C} {ns:List Nat} {v:Value} (hx:lI h c=some (x,ns)) (hc:RC w G h c v):
  ∃pc:PC,pc.er=x/\pc.val=v/\Wz B w G h ns pc/\tT h ns:=by
 have noT:∀pc:PC,(∀sz a cap xs,pc≠ .list sz a cap xs)->∀b,¬jb b pc:=by
  intro pc hp b hb
  rcases hb with hb|⟨sz,o,cap,xs,rfl,_⟩
  ·cases hb with
   |here sz o cap xs h=>exact hp _ _ _ _ rfl
   |there sz a cap xs k j c h1 h2=>exact hp _ _ _ _ rfl
  ·exact hp _ _ _ _ rfl
 cases c with
 |c y=>
  simp only[Am.lI] at hx
  split at hx
  ·rename_i hs
   injection hx with hx
   injection hx with h1 h2
   subst h1 h2
   obtain⟨pc,p1,p2,p3,p4⟩:=hc
   have cf:∀b,¬jb b pc:=noT pc (by rintro sz a cap xs rfl;rw[<-p1] at hs;simp[PC.dO,C.eR] at hs)
   have BJ:Dp w pc:=by
    cases pc with
    |list sz a cap xs=>rw[<-p1] at hs;simp[PC.dO,C.eR] at hs
    |_=>trivial
   exact⟨pc,p1,p2,⟨⟨p3,(Sep.lF (by rw[p1];exact hs)).1,BJ⟩,fun b hb=>absurd hb (cf b)⟩,fun n hn=>by simp at hn⟩
  ·cases hx
 |nil sz=>
  simp only[Am.lI] at hx
  split at hx
  ·rename_i dR
   injection hx with hx
   injection hx with h1 h2
   subst h1 h2
   have cC:v=.slice none 0 0:=hc
   subst cC
   have ky:Sep (.list sz none 0 []):=by
    refine .list _ _ _ _ ?_ ?_ ?_
    ·rintro k j c ⟨e,he,_⟩;simp at he
    ·rintro b o k j c _ ⟨e,he,_⟩;simp at he
    ·rintro k j c k' j' c' b ⟨e,he,_⟩;simp at he
   refine⟨.list sz none 0 [],by simp[PC.dO],rfl,⟨⟨.nil _ _ _ dR,ky,dR,by simp,.inl rfl⟩,fun b hb=>?_⟩,fun n hn=>by simp at hn⟩
   rcases hb with hb|⟨_,_,_,_,hb,uv⟩
   ·rw[aT.kI] at hb
    rcases hb with⟨hb,_⟩|⟨k,j,c,⟨e,he,_⟩,_⟩
    ·exact absurd rfl hb
    ·simp at he
   ·cases hb
  ·cases hx
 |sl n sz lo len=>
  cases lo with
  |succ lo=>simp[Am.lI] at hx
  |zero=>
   simp only[Am.lI] at hx
   split at hx
   ·rename_i m rs xs hn
    split at hx
    ·rename_i cM
     obtain⟨rfl,hm,hl⟩:=cM
     injection hx with hx
     injection hx with h1 h2
     subst h1 h2
     have bP:h n≠none:=by rw[hn];simp
     have hr:=H.row n true m rs xs hn
     have hs:jA (G.g n) rs 0 len v:=hc bP
     obtain⟨a1,a2,a3,a4⟩:=FK hr hs (by omega)
     have sd:(∀b,aX b (G.g n).px->dH w b/\B<=b)/\iy (G.g n).px/\(∀b,aX b (G.g n).px->(G.g n).nl=false->b≠(G.g n).b):=by
      have c6:=hr.mode
      cases m with
      |aF=>exact absurd rfl hm
      |ab=>exact⟨fun b hb=>⟨(c6.1 b hb).2.1,(c6.1 b hb).2.2.resolve_right id⟩,c6.2,fun b hb hl ef=>(H.own n bP hl).1 (ef▸(c6.1 b hb).1)⟩
      |live=>exact⟨fun b hb=>⟨(c6.1 b hb).2.1,(c6.1 b hb).2.2.resolve_right id⟩,c6.2,fun b hb hl=>H.live n true rs xs hn b hb n bP hl⟩
     obtain⟨o1,o2,o3⟩:=sd
     refine⟨kK (G.g n) rs 0 len v,by simpa using a1,a2,?_,fun q hq=>?_⟩
     ·rcases hs with⟨aL,rfl,_,rfl⟩|⟨aL,ad',rfl,jE,had⟩
      ·simp only[kK] at a3⊢
       have hz:(List.take 0 (List.drop 0 (G.g n).px))=[]:=by simp
       have vU:=(hr.nl aL).2 rfl
       rw[hz,vU] at a3⊢
       have ky:Sep (.list rs (G.g n).na 0 []):=by
        refine .list _ _ _ _ ?_ ?_ ?_
        ·rintro k j c ⟨e,he,_⟩;simp at he
        ·rintro b o k j c _ ⟨e,he,_⟩;simp at he
        ·rintro k j c k' j' c' b ⟨e,he,_⟩;simp at he
       refine⟨⟨a3,ky,hr.pos,by simp,.inl rfl⟩,fun b hb=>?_⟩
       rcases hb with hb|⟨_,_,_,_,hb,uv⟩
       ·rw[aT.kI] at hb
        rcases hb with⟨hb,_⟩|⟨k,j,c,⟨e,he,_⟩,_⟩
        ·exact absurd rfl hb
        ·simp at he
       ·injection hb with _ _ hb _;exact absurd hb.symm uv
      ·obtain⟨r2,cur,e,r3,r4⟩:=hr.room aL rfl
       have e0:=had (.inr rfl)
       have e0':ad'=some (ad (G.g n).b (G.g n).o):=by rw[e0];simp
       subst e0'
       simp only[kK,Nat.sub_zero] at a3 a4⊢
       have EH:=o2.sub 0 len
       have eX:∀k j c,At ((List.drop 0 (G.g n).px).take len) k j c->At (G.g n).px k j c:=fun k j c hk=>by have:=(pi hk).1;simpa using this
       refine⟨⟨a3,.list _ _ _ _ EH.1 (fun b o k j c eV hk hb=>?_) EH.2,hr.pos,by simp;omega,.inr ⟨_,_,cur,e,rfl,r3,r4,r2,fun k j c hk hb=>?_⟩⟩,fun b hb=>?_⟩
       ·injection eV with eV
        exact o3 b ⟨_,_,_,eX _ _ _ hk,hb⟩ aL (nD eV).1.symm
       ·exact o3 _ ⟨_,_,_,eX _ _ _ hk,hb⟩ aL rfl
       ·have hf:nG G n b:=by
         rcases hb with hb|⟨_,_,_,_,hb,uv⟩
         ·exact a4 b hb
         ·injection hb with _ hb _ _
          injection hb with hb
          exact .inl ⟨aL,(nD hb).1.symm⟩
        refine⟨?_,n,by simp,hf⟩
        rcases hf with⟨_,rfl⟩|hF
        ·exact⟨((H.own n bP aL).2.1).resolve_right id,(hr.dV aL).1⟩
        ·exact⟨(o1 b hF).2,(o1 b hF).1⟩
     ·simp at hq
      subst hq
      exact⟨_,_,_,_,hn,hm⟩
    ·cases hx
   ·cases hx
 |ptr _ _ _ _=>simp[Am.lI] at hx
 |cB _ _=>simp[Am.lI] at hx
 |bx _ _ _ _ _ _=>simp[Am.lI] at hx
 |fn _ _=>simp[Am.lI] at hx
 |cV _ _ _ _ _ _=>simp[Am.lI] at hx
 |bn=>simp[Am.lI] at hx
structure sP (B:Nat) (w:World) (G:Gh) (h:Nat->Option ao) (ns:List Nat) (ps:List PC):Prop where
 each:∀pc∈ps,Wz B w G h ns pc
 nF:ns.Nodup->ps.Pairwise fun p q=>∀b,jb b p->¬jb b q
theorem sP.append (H:HR B Ex.no w G h used []) {ns ki:List Nat} {ps ps':List PC} (h1:sP B w G h ns ps) (h2:sP B w G h ki ps') (n1:tT h ns) (n2:tT h ki):sP B w G h (ns++ki) (ps++ps'):=by
 refine⟨fun pc aU=>?_,fun hd=>?_⟩
 ·rcases List.mem_append.1 aU with hp|hp
  ·obtain⟨g,n⟩:=h1.each pc hp
   exact⟨g,fun b hb=>⟨(n b hb).1,by obtain⟨k,hk,hf⟩:=(n b hb).2;exact⟨k,by simp[hk],hf⟩⟩⟩
  ·obtain⟨g,n⟩:=h2.each pc hp
   exact⟨g,fun b hb=>⟨(n b hb).1,by obtain⟨k,hk,hf⟩:=(n b hb).2;exact⟨k,by simp[hk],hf⟩⟩⟩
 ·rw[List.nodup_append] at hd
  rw[List.pairwise_append]
  refine⟨h1.nF hd.1,h2.nF hd.2.1,fun p hp q hq b hb aY=>?_⟩
  obtain⟨k,hk,hf⟩:=((h1.each p hp).new b hb).2
  obtain⟨k',cO,g9⟩:=((h2.each q hq).new b aY).2
  obtain⟨_,_,_,_,e1,m1⟩:=n1 k hk
  obtain⟨_,_,_,_,e2,m2⟩:=n2 k' cO
  exact H.YU (hd.2.2 k hk k' cO) e1 e2 m1 m2 hf g9
theorem tT.append {ns ki:List Nat} (h1:tT h ns) (h2:tT h ki):tT h (ns++ki):=fun n hn=>(List.mem_append.1 hn).elim (h1 n) (h2 n)
theorem HR.tG (H:HR B Ex.no w G h used []):∀{cs:List ah} {xs:List C} {ns:List Nat} {vs:List Value},tG h cs=some (xs,ns)->cT w G h cs vs->
  ∃bw:List PC,bw.map PC.er=xs/\bw.map PC.val=vs/\sP B w G h ns bw/\tT h ns
 |[],xs,ns,vs,hx,hc=>by
  simp only[Am.tG] at hx
  injection hx with hx
  injection hx with h1 h2
  subst h1 h2
  have:vs=[]:=List.eq_nil_of_length_eq_zero (by simpa using hc.1)
  subst this
  exact⟨[],rfl,rfl,⟨by simp,fun _=>List.Pairwise.nil⟩,fun n hn=>by simp at hn⟩
 |c::cs,xs,ns,vs,hx,hc=>by
  simp only[Am.tG] at hx
  split at hx
  ·rename_i x ns1 aq ns2 e1 e2
   injection hx with hx
   injection hx with h1 h2
   subst h1 h2
   obtain⟨hlen,bU⟩:=hc
   match vs,hlen with
   |v::vs,hlen=>
    obtain⟨pc,a1,a2,a3,a4⟩:=H.lI e1 (bU 0 c v rfl rfl).2
    obtain⟨bw,b1,b2,b3,b4⟩:=H.tG e2 (cs:=cs) (vs:=vs) ⟨by simpa using hlen,fun j c u h1 h2=>bU (j+1) c u h1 h2⟩
    have ED:sP B w G h ns1 [pc]:=⟨fun q hq=>by simp at hq;subst hq;exact a3,fun _=>by simp⟩
    exact⟨pc::bw,by simp[a1,b1],by simp[a2,b2],sP.append H ED b3 a4 b4,a4.append b4⟩
  ·cases hx
theorem HR.rn (H:HR B Ex.no w G h used []):∀{xs:List aj} {ds:List Dv} {ns:List Nat} {vs:List Value},rn h xs=some (ds,ns)->vs.length=xs.length->
  (∀(j:Nat) (x:aj) (v:Value),xs[j]? =some x->vs[j]? =some v->RA w G h x v)->
  ∃aW:List (K×List PC),aW.map (fun p=>(p.1,p.2.map PC.er))=ds/\aW.map rp=vs/\(∀p∈aW,p.1≠ .ptr/\(p.1=.one->p.2.length=1))/\sP B w G h ns (aW.flatMap (·.2))/\tT h ns
 |[],ds,ns,vs,hx,hl,hc=>by
  simp only[Am.rn] at hx
  injection hx with hx
  injection hx with h1 h2
  subst h1 h2
  have:vs=[]:=List.eq_nil_of_length_eq_zero (by simpa using hl)
  subst this
  exact⟨[],rfl,rfl,by simp,⟨by simp,fun _=>List.Pairwise.nil⟩,fun n hn=>by simp at hn⟩
 |x::xs,ds,ns,vs,hx,hl,hc=>by
  simp only[Am.rn] at hx
  split at hx
  ·rename_i ag cs ku
   split at hx
   ·rename_i ys ns1 ue ns2 e1 e2
    injection hx with hx
    injection hx with h1 h2
    subst h1 h2
    match vs,hl with
    |v::vs,hl=>
     obtain⟨bw,a1,a2,a3,a4⟩:=H.tG e1 ((hc 0 x v rfl rfl).cells ku)
     obtain⟨aW,b1,b2,b3,b4,b5⟩:=H.rn e2 (xs:=xs) (vs:=vs) (by simpa using hl) (fun j x v h1 h2=>hc (j+1) x v h1 h2)
     have Eh:=hc 0 x v rfl rfl
     cases ag with
     |true=>
      have hv:rp (K.agg,bw)=v:=by
       cases x with
       |one c=>cases c<;>simp[aj.cells?] at ku
       |agg cs'=>
        obtain⟨us,e,_⟩:∃us:List Value,v=.agg us.toArray/\cT w G h cs' us:=Eh
        subst e
        simp only[rp,a2]
        simp[Value.cells]
       |bq l=>simp[aj.cells?] at ku
      refine⟨(K.agg,bw)::aW,by simp[a1,b1],by simp[hv,b2],fun p hp=>?_,?_,a4.append b5⟩
      ·cases hp with
       |head=>exact⟨by simp,fun e=>by cases e⟩
       |tail _ hp=>exact b3 p hp
      ·simpa using sP.append H a3 b4 a4 b5
     |false=>
      have En:∃c,x=.one c/\cs=[c]:=by
       cases x with
       |one c=>cases c<;>simp[aj.cells?] at ku<;>exact⟨_,rfl,ku.symm⟩
       |agg cs'=>simp[aj.cells?] at ku
       |bq l=>simp[aj.cells?] at ku
      obtain⟨c,rfl,rfl⟩:=En
      have gx:c≠ .bn:=by rintro rfl;simp[aj.cells?] at ku
      have h1c:=(Eh.fH gx).2
      have yy:v.cells.toList=[v]:=by cases v<;>first|rfl|(simp[Value.oneCell'] at h1c)
      rw[yy] at a2
      match bw,a2 with
      |[pc],a2=>
       have hv:rp (K.one,[pc])=v:=by simpa[rp] using a2
       refine⟨(K.one,[pc])::aW,by simp[<-a1,b1],by simp[hv,b2],fun p hp=>?_,?_,a4.append b5⟩
       ·cases hp with
        |head=>exact⟨by simp,fun _=>rfl⟩
        |tail _ hp=>exact b3 p hp
       ·simpa using sP.append H a3 b4 a4 b5
   ·cases hx
  ·cases hx
end
end Go.Am
