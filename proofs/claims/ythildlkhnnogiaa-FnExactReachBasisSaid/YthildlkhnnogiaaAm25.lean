/- Am25: what a function returns. No condition. -/
import Derived.Test.YthildlkhnnogiaaAm24
set_option linter.unusedVariables false
namespace Go.Am
inductive bN where
 |tmp (t:Nat)
 |cell (t sz:Nat) (ag:Bool)
def m6 (P:Program):List ResultVar->List bN->Bool
 |[],[]=>true
 |.tmp t::rs,.tmp t'::ms=>(t==t')&&m6 P rs ms
 |.cell a ty::rs,.cell a' sz ag::ms=>(a==a')&&qm P ty ag sz&&m6 P rs ms
 |_,_=>false
def St.su (σ:St):List bN->Option (List ah)
 |[]=>some []
 |.tmp t::ms=>match σ.su ms with
  |some vs=>some (σ.env t::vs)
  |none=>none
 |.cell t sz ag::ms=>match σ.env t with
  |.one p=>match loadAt σ.h p sz,σ.su ms with
   |some cs,some vs=>some (kM ag cs::vs)
   |_,_=>none
  |_=>none
def kg (h:Nat->Option aj):ab->Option (C×List Nat)
 |.c x=>if x.dL=true then some (x,[]) else none
 |.nil sz=>if 0<sz then some (.list sz [],[]) else none
 |.sl n sz 0 len=>match h n with
  |some (.row true m rs xs)=>if rs=sz/\m≠ .aG/\len<=xs.length then some (.list sz (xs.take len),[n]) else none
  |_=>none
 |_=>none
def ud (h:Nat->Option aj):List ab->Option (List C×List Nat)
 |[]=>some ([],[])
 |c::cs=>match kg h c,ud h cs with
  |some (x,ns),some (xs,jQ)=>some (x::xs,ns++jQ)
  |_,_=>none
def rj (h:Nat->Option aj):List ah->Option (List Dv×List Nat)
 |[]=>some ([],[])
 |v::vs=>match v.cells? with
  |some (ag,cs)=>match ud h cs,rj h vs with
   |some (xs,ns),some (ds,jQ)=>some ((if ag=true then(K.agg,xs) else(K.one,xs))::ds,ns++jQ)
   |_,_=>none
  |none=>none
def St.ub (σ:St) (ms:List bN):Option (List Dv):=
 match σ.su ms with
 |some vs=>match rj σ.h vs with
  |some (ds,ns)=>if ns.Nodup then some ds else none
  |none=>none
 |none=>none
section
variable {B:Nat} {E:Ex} {w0 w w':World} {G G':Gh} {N:Nat} {h h':Nat->Option aj} {used:Nat->Bool}
variable {P:Program} {T:aF} {a:Act} {σ σ':St}
def nb (G:Gh) (n b:Nat):Prop:=((G.g n).nl=false/\b=(G.g n).b)\/aP b (G.g n).px
theorem HR.W8 (H:HR B E w G h used []) {n n':Nat} (av:n≠n') {gr aW:Bool} {m m':Mode} {sz ax:Nat} {xs ak:List (List C)} (h1:h n=some (.row gr m sz xs)) (h2:h n'=some (.row aW m' ax ak))
  (hm:m≠ .aG) (bm:m'≠ .aG) {b:Nat} (hb:nb G n b):¬nb G n' b:=by
 have e1:h n≠none:=by rw[h1];simp
 have e2:h n'≠none:=by rw[h2];simp
 have own:∀{p q:Nat} {gr:Bool} {m:Mode} {sz:Nat} {xs:List (List C)},h p≠none->h q=some (.row gr m sz xs)->m≠ .aG->(G.g p).nl=false->¬aP (G.g p).b (G.g q).px:=by
  intro p q gr m sz xs hp hq hm hl hF
  have eY:=(H.row q gr m sz xs hq).mode
  cases m with
  |aG=>exact hm rfl
  |af=>exact(H.own p hp hl).1 (eY.1 _ hF).1
  |live=>exact H.live q gr sz xs hq _ hF p hp hl rfl
 rintro(⟨l2,rfl⟩|b2)
 ·rcases hb with⟨l1,b1⟩|b1
  ·exact H.inj n n' e1 e2 av l1 l2 b1.symm
  ·exact own e2 h1 hm l2 b1
 ·rcases hb with⟨l1,rfl⟩|b1
  ·exact own e1 h2 bm l1 b2
  ·exact H.eV n n' gr m sz xs aW m' ax ak h1 h2 hm bm av b b1 b2
structure U6 (B:Nat) (w:World) (G:Gh) (h:Nat->Option aj) (ns:List Nat) (pc:PC):Prop where
 dk:Good w pc/\Sep pc/\A3 w pc
 new:∀b,iy b pc->(B<=b/\cP w b)/\∃n∈ns,nb G n b
def uu (h:Nat->Option aj) (ns:List Nat):Prop:=∀n∈ns,∃gr m sz xs,h n=some (.row gr m sz xs)/\m≠ .aG
theorem HR.kg (H:HR B Ex.no w G h used []) {c:ab} {x:C} {ns:List Nat} {v:Value} (hx:kg h c=some (x,ns)) (hc:RC w G h c v):
  ∃pc:PC,pc.er=x/\pc.val=v/\U6 B w G h ns pc/\uu h ns/\∀n sz len gr m rs xs,c=.sl n sz 0 len->h n=some (.row gr m rs xs)->∃x0 cap,pc=.list rs x0 cap ((G.g n).px.take len):=by
 have noT:∀pc:PC,(∀sz a cap xs,pc≠ .list sz a cap xs)->∀b,¬iy b pc:=by
  intro pc hp b hb
  rcases hb with hb|⟨sz,o,cap,xs,rfl,_⟩
  ·cases hb with
   |here sz o cap xs h=>exact hp _ _ _ _ rfl
   |there sz a cap xs k j c h1 h2=>exact hp _ _ _ _ rfl
  ·exact hp _ _ _ _ rfl
 cases c with
 |c y=>
  simp only[Am.kg] at hx
  split at hx
  ·rename_i hs
   injection hx with hx
   injection hx with h1 h2
   subst h1 h2
   obtain⟨pc,p1,p2,p3,p4⟩:=hc
   have bG:∀b,¬iy b pc:=noT pc (by rintro sz a cap xs rfl;rw[<-p1] at hs;simp[PC.cN,C.dL] at hs)
   have xk:A3 w pc:=by
    cases pc with
    |list sz a cap xs=>rw[<-p1] at hs;simp[PC.cN,C.dL] at hs
    |_=>trivial
   exact⟨pc,p1,p2,⟨⟨p3,(Sep.fT (by rw[p1];exact hs)).1,xk⟩,fun b hb=>absurd hb (bG b)⟩,(fun n hn=>by simp at hn),fun n sz len gr m rs xs e=>by cases e⟩
  ·cases hx
 |nil sz=>
  simp only[Am.kg] at hx
  split at hx
  ·rename_i dQ
   injection hx with hx
   injection hx with h1 h2
   subst h1 h2
   have bZ:v=.slice none 0 0:=hc
   subst bZ
   have iG:Sep (.list sz none 0 []):=by
    refine .list _ _ _ _ ?_ ?_ ?_
    ·rintro k j c ⟨e,he,_⟩;simp at he
    ·rintro b o k j c _ ⟨e,he,_⟩;simp at he
    ·rintro k j c k' j' c' b ⟨e,he,_⟩;simp at he
   refine⟨.list sz none 0 [],by simp[PC.cN],rfl,⟨⟨.nil _ _ _ dQ,iG,dQ,by simp,.inl rfl⟩,fun b hb=>?_⟩,(fun n hn=>by simp at hn),fun n sz len gr m rs xs e=>by cases e⟩
   rcases hb with hb|⟨_,_,_,_,hb,po⟩
   ·rw[aK.jw] at hb
    rcases hb with⟨hb,_⟩|⟨k,j,c,⟨e,he,_⟩,_⟩
    ·exact absurd rfl hb
    ·simp at he
   ·cases hb
  ·cases hx
 |sl n sz lo len=>
  cases lo with
  |succ lo=>simp[Am.kg] at hx
  |zero=>
   simp only[Am.kg] at hx
   split at hx
   ·rename_i m rs xs hn
    split at hx
    ·rename_i bR
     obtain⟨rfl,hm,hl⟩:=bR
     injection hx with hx
     injection hx with h1 h2
     subst h1 h2
     have bi:h n≠none:=by rw[hn];simp
     have hr:=H.row n true m rs xs hn
     have hs:eU (G.g n) rs 0 len v:=hc bi
     obtain⟨a1,a2,a3,a4⟩:=C0 hr hs (by omega)
     have pw:(∀b,aP b (G.g n).px->cP w b/\B<=b)/\gF (G.g n).px/\(∀b,aP b (G.g n).px->(G.g n).nl=false->b≠(G.g n).b):=by
      have cv:=hr.mode
      cases m with
      |aG=>exact absurd rfl hm
      |af=>exact⟨fun b hb=>⟨(cv.1 b hb).2.1,(cv.1 b hb).2.2.resolve_right id⟩,cv.2,fun b hb hl dP=>(H.own n bi hl).1 (dP▸(cv.1 b hb).1)⟩
      |live=>exact⟨fun b hb=>⟨(cv.1 b hb).2.1,(cv.1 b hb).2.2.resolve_right id⟩,cv.2,fun b hb hl=>H.live n true rs xs hn b hb n bi hl⟩
     obtain⟨o1,o2,o3⟩:=pw
     refine⟨ix (G.g n) rs 0 len v,by simpa using a1,a2,?_,fun q hq=>?_,fun n' ax tR aW m' kJ ak e1 e2=>?_⟩
     ·rcases hs with⟨aD,rfl,_,rfl⟩|⟨aD,ad',rfl,gh,had⟩
      ·simp only[ix] at a3⊢
       have hz:(List.take 0 (List.drop 0 (G.g n).px))=[]:=by simp
       have o7:=(hr.nl aD).2 rfl
       rw[hz,o7] at a3⊢
       have iG:Sep (.list rs (G.g n).na 0 []):=by
        refine .list _ _ _ _ ?_ ?_ ?_
        ·rintro k j c ⟨e,he,_⟩;simp at he
        ·rintro b o k j c _ ⟨e,he,_⟩;simp at he
        ·rintro k j c k' j' c' b ⟨e,he,_⟩;simp at he
       refine⟨⟨a3,iG,hr.pos,by simp,.inl rfl⟩,fun b hb=>?_⟩
       rcases hb with hb|⟨_,_,_,_,hb,po⟩
       ·rw[aK.jw] at hb
        rcases hb with⟨hb,_⟩|⟨k,j,c,⟨e,he,_⟩,_⟩
        ·exact absurd rfl hb
        ·simp at he
       ·injection hb with _ _ hb _;exact absurd hb.symm po
      ·obtain⟨r2,cur,e,r3,r4⟩:=hr.room aD rfl
       have e0:=had (.inr rfl)
       have e0':ad'=some (ad (G.g n).b (G.g n).o):=by rw[e0];simp
       subst e0'
       simp only[ix,Nat.sub_zero] at a3 a4⊢
       have EK:=o2.sub 0 len
       have dJ:∀k j c,At ((List.drop 0 (G.g n).px).take len) k j c->At (G.g n).px k j c:=fun k j c hk=>by have:=(oW hk).1;simpa using this
       refine⟨⟨a3,.list _ _ _ _ EK.1 (fun b o k j c fm hk hb=>?_) EK.2,hr.pos,by simp;omega,.inr ⟨_,_,cur,e,rfl,r3,r4,r2,fun k j c hk hb=>?_⟩⟩,fun b hb=>?_⟩
       ·injection fm with fm
        exact o3 b ⟨_,_,_,dJ _ _ _ hk,hb⟩ aD (jF fm).1.symm
       ·exact o3 _ ⟨_,_,_,dJ _ _ _ hk,hb⟩ aD rfl
       ·have hf:nb G n b:=by
         rcases hb with hb|⟨_,_,_,_,hb,po⟩
         ·exact a4 b hb
         ·injection hb with _ hb _ _
          injection hb with hb
          exact .inl ⟨aD,(jF hb).1.symm⟩
        refine⟨?_,n,by simp,hf⟩
        rcases hf with⟨_,rfl⟩|hF
        ·exact⟨((H.own n bi aD).2.1).resolve_right id,(hr.cZ aD).1⟩
        ·exact⟨(o1 b hF).2,(o1 b hF).1⟩
     ·simp at hq
      subst hq
      exact⟨_,_,_,_,hn,hm⟩
     ·injection e1 with e1 _ _ e3
      subst e1 e3
      rw[hn] at e2
      injection e2 with e2
      injection e2 with _ _ e2 _
      subst e2
      rcases hs with⟨_,rfl,_,_⟩|⟨_,a',rfl,_,_⟩
      ·exact⟨_,_,by simp only[ix,List.drop_zero];rfl⟩
      ·exact⟨_,_,by simp only[ix,List.drop_zero];rfl⟩
    ·cases hx
   ·cases hx
 |ptr _ _ _ _=>simp[Am.kg] at hx
 |cd _ _=>simp[Am.kg] at hx
 |bK _ _ _ _ _ _=>simp[Am.kg] at hx
 |bf _ _ _ _ _ _=>simp[Am.kg] at hx
 |fn _ _=>simp[Am.kg] at hx
 |bX _ _ _ _ _ _=>simp[Am.kg] at hx
 |aX=>simp[Am.kg] at hx
structure sU (B:Nat) (w:World) (G:Gh) (h:Nat->Option aj) (ns:List Nat) (ps:List PC):Prop where
 each:∀pc∈ps,U6 B w G h ns pc
 m8:ns.Nodup->ps.Pairwise fun p q=>∀b,iy b p->¬iy b q
theorem sU.append (H:HR B Ex.no w G h used []) {ns jQ:List Nat} {ps ZO:List PC} (h1:sU B w G h ns ps) (h2:sU B w G h jQ ZO) (n1:uu h ns) (n2:uu h jQ):sU B w G h (ns++jQ) (ps++ZO):=by
 refine⟨fun pc aT=>?_,fun hd=>?_⟩
 ·rcases List.mem_append.1 aT with hp|hp
  ·obtain⟨g,n⟩:=h1.each pc hp
   exact⟨g,fun b hb=>⟨(n b hb).1,by obtain⟨k,hk,hf⟩:=(n b hb).2;exact⟨k,by simp[hk],hf⟩⟩⟩
  ·obtain⟨g,n⟩:=h2.each pc hp
   exact⟨g,fun b hb=>⟨(n b hb).1,by obtain⟨k,hk,hf⟩:=(n b hb).2;exact⟨k,by simp[hk],hf⟩⟩⟩
 ·rw[List.nodup_append] at hd
  rw[List.pairwise_append]
  refine⟨h1.m8 hd.1,h2.m8 hd.2.1,fun p hp q hq b hb aE=>?_⟩
  obtain⟨k,hk,hf⟩:=((h1.each p hp).new b hb).2
  obtain⟨k',bx,j0⟩:=((h2.each q hq).new b aE).2
  obtain⟨_,_,_,_,e1,m1⟩:=n1 k hk
  obtain⟨_,_,_,_,e2,m2⟩:=n2 k' bx
  exact H.W8 (hd.2.2 k hk k' bx) e1 e2 m1 m2 hf j0
theorem uu.append {ns jQ:List Nat} (h1:uu h ns) (h2:uu h jQ):uu h (ns++jQ):=fun n hn=>(List.mem_append.1 hn).elim (h1 n) (h2 n)
theorem HR.ud (H:HR B Ex.no w G h used []):∀{cs:List ab} {xs:List C} {ns:List Nat} {vs:List Value},ud h cs=some (xs,ns)->cb w G h cs vs->
  ∃bg:List PC,bg.map PC.er=xs/\bg.map PC.val=vs/\sU B w G h ns bg/\uu h ns
 |[],xs,ns,vs,hx,hc=>by
  simp only[Am.ud] at hx
  injection hx with hx
  injection hx with h1 h2
  subst h1 h2
  have:vs=[]:=List.eq_nil_of_length_eq_zero (by simpa using hc.1)
  subst this
  exact⟨[],rfl,rfl,⟨by simp,fun _=>List.Pairwise.nil⟩,fun n hn=>by simp at hn⟩
 |c::cs,xs,ns,vs,hx,hc=>by
  simp only[Am.ud] at hx
  split at hx
  ·rename_i x Zy ak Zz e1 e2
   injection hx with hx
   injection hx with h1 h2
   subst h1 h2
   obtain⟨hlen,bO⟩:=hc
   match vs,hlen with
   |v::vs,hlen=>
    obtain⟨pc,a1,a2,a3,a4,_⟩:=H.kg e1 (bO 0 c v rfl rfl).2
    obtain⟨bg,b1,b2,b3,b4⟩:=H.ud e2 (cs:=cs) (vs:=vs) ⟨by simpa using hlen,fun j c u h1 h2=>bO (j+1) c u h1 h2⟩
    have lz:sU B w G h Zy [pc]:=⟨fun q hq=>by simp at hq;subst hq;exact a3,fun _=>by simp⟩
    exact⟨pc::bg,by simp[a1,b1],by simp[a2,b2],sU.append H lz b3 a4 b4,a4.append b4⟩
  ·cases hx
theorem HR.rj (H:HR B Ex.no w G h used []):∀{xs:List ah} {ds:List Dv} {ns:List Nat} {vs:List Value},rj h xs=some (ds,ns)->vs.length=xs.length->
  (∀(j:Nat) (x:ah) (v:Value),xs[j]? =some x->vs[j]? =some v->RA w G h x v)->
  ∃aU:List (K×List PC),aU.map (fun p=>(p.1,p.2.map PC.er))=ds/\aU.map rk=vs/\(∀p∈aU,p.1≠ .ptr/\(p.1=.one->p.2.length=1))/\sU B w G h ns (aU.flatMap (·.2))/\uu h ns
 |[],ds,ns,vs,hx,hl,hc=>by
  simp only[Am.rj] at hx
  injection hx with hx
  injection hx with h1 h2
  subst h1 h2
  have:vs=[]:=List.eq_nil_of_length_eq_zero (by simpa using hl)
  subst this
  exact⟨[],rfl,rfl,by simp,⟨by simp,fun _=>List.Pairwise.nil⟩,fun n hn=>by simp at hn⟩
 |x::xs,ds,ns,vs,hx,hl,hc=>by
  simp only[Am.rj] at hx
  split at hx
  ·rename_i ag cs jX
   split at hx
   ·rename_i ys Zy tf Zz e1 e2
    injection hx with hx
    injection hx with h1 h2
    subst h1 h2
    match vs,hl with
    |v::vs,hl=>
     obtain⟨bg,a1,a2,a3,a4⟩:=H.ud e1 ((hc 0 x v rfl rfl).cells jX)
     obtain⟨aU,b1,b2,b3,b4,b5⟩:=H.rj e2 (xs:=xs) (vs:=vs) (by simpa using hl) (fun j x v h1 h2=>hc (j+1) x v h1 h2)
     have zj:=hc 0 x v rfl rfl
     cases ag with
     |true=>
      have hv:rk (K.agg,bg)=v:=by
       cases x with
       |one c=>cases c<;>simp[ah.cells?] at jX
       |agg cs'=>
        obtain⟨us,e,_⟩:∃us:List Value,v=.agg us.toArray/\cb w G h cs' us:=zj
        subst e
        simp only[rk,a2]
        simp[Value.cells]
       |bk l=>simp[ah.cells?] at jX
      refine⟨(K.agg,bg)::aU,by simp[a1,b1],by simp[hv,b2],fun p hp=>?_,?_,a4.append b5⟩
      ·cases hp with
       |head=>exact⟨by simp,fun e=>by cases e⟩
       |tail _ hp=>exact b3 p hp
      ·simpa using sU.append H a3 b4 a4 b5
     |false=>
      have lp:∃c,x=.one c/\cs=[c]:=by
       cases x with
       |one c=>cases c<;>simp[ah.cells?] at jX<;>exact⟨_,rfl,jX.symm⟩
       |agg cs'=>simp[ah.cells?] at jX
       |bk l=>simp[ah.cells?] at jX
      obtain⟨c,rfl,rfl⟩:=lp
      have eg:c≠ .aX:=by rintro rfl;simp[ah.cells?] at jX
      have h1c:=(zj.dB eg).2
      have nf:v.cells.toList=[v]:=by cases v<;>first|rfl|(simp[Value.oneCell'] at h1c)
      rw[nf] at a2
      match bg,a2 with
      |[pc],a2=>
       have hv:rk (K.one,[pc])=v:=by simpa[rk] using a2
       refine⟨(K.one,[pc])::aU,by simp[<-a1,b1],by simp[hv,b2],fun p hp=>?_,?_,a4.append b5⟩
       ·cases hp with
        |head=>exact⟨by simp,fun _=>rfl⟩
        |tail _ hp=>exact b3 p hp
       ·simpa using sU.append H a3 b4 a4 b5
   ·cases hx
  ·cases hx
end
end Go.Am
