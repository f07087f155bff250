/- Am5: named rows as data (views), and rows that move into other rows (takes). No condition. -/
import Derived.Test.YtbgmbplglejidaaAm4
set_option linter.unusedVariables false
namespace Go.Am
theorem pC {α:Type} {px:List (List α)} {lo len k j:Nat} {c:α} (h:At ((px.drop lo).take len) k j c):At px (lo+k) j c/\k<len:=by
 obtain⟨e,he,hj⟩:=h
 rw[List.getElem?_take] at he
 split at he
 ·rename_i hk
  rw[List.getElem?_drop] at he
  exact⟨⟨e,he,hj⟩,hk⟩
 ·cases he
section
variable {B:Nat} {E:Ex} {w0 w w':World} {G G':Gh} {h h':Nat->Option ar} {used used':Nat->Bool} {tk:List PC}
def lp (p:PB) (sz lo len:Nat) (v:Value):PC:=
 match v with
 |.slice a _ cap=>.list sz a cap ((p.px.drop lo).take len)
 |_=>.bool false
theorem Gr {gr:Bool} {m:Mode} {sz:Nat} {xs:List (List C)} {p:PB} (hr:uv B E w G gr m sz xs p) {lo len:Nat} {v:Value} (hv:jO p sz lo len v) (hl:lo+len<=xs.length):
  (lp p sz lo len v).er=.list sz ((xs.drop lo).take len)/\(lp p sz lo len v).val=v/\Good w (lp p sz lo len v)/\
  (∀b,aX b (lp p sz lo len v)->(p.nl=false/\b=p.b)\/aZ b p.px):=by
 have fZ:p.px.length=xs.length:=by rw[hr.er];simp
 rcases hv with⟨hn,rfl,rfl,rfl⟩|⟨hn,a,rfl,hc,ha⟩
 ·have h0:=(hr.nl hn).1
  refine⟨?_,?_,?_,?_⟩
  ·simp[lp,PC.dR]
  ·simp[lp,PC.val]
  ·simp only[lp,List.drop_zero,List.take_zero];exact .nil _ _ _ hr.pos
  ·intro b hb
   simp only[lp,List.drop_zero,List.take_zero] at hb
   rw[aX.lm] at hb
   rcases hb with⟨hb,_⟩|⟨k,j,c,⟨e,he,_⟩,_⟩
   ·exact absurd rfl hb
   ·simp at he
 ·have hlen:((p.px.drop lo).take len).length=len:=by simp;omega
  refine⟨?_,?_,?_,?_⟩
  ·simp only[lp,PC.dR]
   rw[hr.er,List.map_take,List.map_drop]
  ·simp[lp,PC.val];omega
  ·simp only[lp]
   by_cases h0:(p.px.drop lo).take len=[]
   ·rw[h0];exact .nil _ _ _ hr.pos
   ·have aaw:0<len:=by
     rcases Nat.eq_zero_or_pos len with hz|hz
     ·subst hz;simp at h0
     ·exact hz
    have e:=ha (.inl (by omega))
    subst e
    obtain⟨a1,a2,a3⟩:=hr.dW hn
    refine .cons sz p.b (p.o+lo*sz) _ _ h0 (by omega) hr.pos (fun e he=>a2.1 e (List.mem_of_mem_drop (List.mem_of_mem_take he))) (fun k j c hk=>?_) (fun k j c hk=>a2.2.2 _ _ _ (pC hk).1)
    have:=a2.2.1 _ _ _ (pC hk).1
    rw[Nat.add_mul] at this
    rw[<-this]
    congr 2
    omega
  ·intro b hb
   simp only[lp] at hb
   rw[aX.lm] at hb
   rcases hb with⟨hb,o,ho⟩|⟨k,j,c,hk,hb⟩
   ·have aaw:0<len:=by
     rcases Nat.eq_zero_or_pos len with hz|hz
     ·subst hz;simp at hb
     ·exact hz
    have e:=ha (.inl (by omega))
    rw[e] at ho
    injection ho with ho
    exact .inl ⟨hn,(nG ho).1.symm⟩
   ·exact .inr ⟨_,_,_,(pC hk).1,hb⟩
theorem HR.cq (H:HR B E w G h used tk) {c:aj} {x:C} {v:Value} (hx:cq h c=some x) (hc:RC w G h c v):∃pc:PC,pc.er=x/\pc.val=v/\Good w pc:=by
 cases c with
 |c y=>
  simp only[Am.cq] at hx
  injection hx with hx
  subst hx
  obtain⟨pc,h1,h2,h3,_⟩:=hc
  exact⟨pc,h1,h2,h3⟩
 |nil sz=>
  simp only[Am.cq] at hx
  split at hx
  ·rename_i dU
   injection hx with hx
   subst hx
   have cA:v=.slice none 0 0:=hc
   subst cA
   exact⟨.list sz none 0 [],by simp[PC.dR],rfl,.nil _ _ _ dU⟩
  ·cases hx
 |sl n sz lo len=>
  simp only[Am.cq] at hx
  split at hx
  ·rename_i gr m rs xs hn
   split at hx
   ·rename_i cV
    obtain⟨rfl,hl⟩:=cV
    injection hx with hx
    subst hx
    have hs:jO (G.g n) rs lo len v:=hc (by rw[hn];simp)
    obtain⟨a1,a2,a3,_⟩:=Gr (H.row n gr m rs xs hn) hs hl
    exact⟨_,a1,a2,a3⟩
   ·cases hx
  ·cases hx
 |bE n k aE off sz len=>
  simp only[Am.cq] at hx
  split at hx
  ·rename_i gr rs xs hn
   split at hx
   ·rename_i cV
    subst cV
    obtain⟨pc,p1,p2,p3⟩:=hc gr xs hn
    have hr:=H.row n gr .live rs xs hn
    have aN:(G.g n).nl=false:=by
     cases hq:(G.g n).nl with
     |false=>rfl
     |true=>obtain⟨e,he,_⟩:=p1;rw[(hr.nl hq).1] at he;simp at he
    refine⟨pc,?_,p2,(hr.dW aN).2.1.2.2 _ _ _ p1⟩
    obtain⟨e,he,hj⟩:=p1
    rw[hr.er] at hx
    simp[he,hj] at hx
    exact hx
   ·cases hx
  ·cases hx
 |ptr _ _ _ _=>simp[Am.cq] at hx
 |cH _ _=>simp[Am.cq] at hx
 |fn _ _=>simp[Am.cq] at hx
 |c7 _ _ _ _ _ _=>simp[Am.cq] at hx
 |bq=>simp[Am.cq] at hx
theorem HR.g7 (H:HR B E w G h used tk):∀{cs:List aj} {xs:List C} {vs:List Value},g7 h cs=some xs->cZ w G h cs vs->
  ∃bx:List PC,bx.map PC.er=xs/\bx.map PC.val=vs/\∀pc∈bx,Good w pc
 |[],xs,vs,hx,hc=>by
  simp only[Am.g7] at hx
  injection hx with hx
  subst hx
  have:vs=[]:=List.eq_nil_of_length_eq_zero (by simpa using hc.1)
  subst this
  exact⟨[],rfl,rfl,by simp⟩
 |c::cs,xs,vs,hx,hc=>by
  simp only[Am.g7] at hx
  split at hx
  ·rename_i x au e1 e2
   injection hx with hx
   subst hx
   obtain⟨hlen,bU⟩:=hc
   match vs,hlen with
   |v::vs,hlen=>
    obtain⟨pc,a1,a2,a3⟩:=H.cq e1 (bU 0 c v rfl rfl).2
    obtain⟨bx,b1,b2,b3⟩:=H.g7 e2 (cs:=cs) (vs:=vs) ⟨by simpa using hlen,fun j c u h1 h2=>bU (j+1) c u h1 h2⟩
    refine⟨pc::bx,by simp[a1,b1],by simp[a2,b2],fun q hq=>?_⟩
    cases hq with
    |head=>exact a3
    |tail _ hq=>exact b3 q hq
  ·cases hx
def AM (w:World) (d:Dv) (v:Value):Prop:=
 match d.1 with
 |.one=>∃bx:List PC,bx.map PC.er=d.2/\(∀pc∈bx,Good w pc)/\bx.map PC.val=[v]
 |.agg=>∃bx:List PC,bx.map PC.er=d.2/\(∀pc∈bx,Good w pc)/\v=.agg (bx.map PC.val).toArray
 |.ptr=>∃(bx:List PC) (b o:Nat),bx.map PC.er=d.2/\v=.pointer (some (ad b o))/\b<w.heap.size/\
  ∀j c,bx[j]? =some c->w.cell? (ad b (o+j))=some c.val/\Good w c
def GX (w:World) (ds:List Dv) (vs:List Value):Prop:=
 vs.length=ds.length/\∀(j:Nat) (d:Dv) (v:Value),ds[j]? =some d->vs[j]? =some v->AM w d v
theorem HR.iG (H:HR B E w G h used tk) {x:ak} {d:Dv} {v:Value} (hx:iG h x=some d) (hc:RA w G h x v):AM w d v:=by
 have one:∀c:aj,(Am.cq h c).map (fun x=>((.one,[x]):Dv))=some d->RA w G h (.one c) v->AM w d v:=by
  intro c hx hc
  cases hv:Am.cq h c with
  |none=>rw[hv] at hx;cases hx
  |some y=>
   rw[hv] at hx
   simp at hx
   subst hx
   rcases hc with rfl|hc
   ·simp[Am.cq] at hv
   ·have cA:cZ w G h [c] [v]:=hc
    obtain⟨pc,a1,a2,a3⟩:=H.cq hv (cA.2 0 c v rfl rfl).2
    exact⟨[pc],by simp[a1],by simpa using a3,by simp[a2]⟩
 cases x with
 |one c=>
  cases c with
  |ptr n k sz off=>
   simp only[Am.iG] at hx
   split at hx
   ·rename_i cs hn
    split at hx
    ·rename_i cV
     obtain⟨rfl,rfl⟩:=cV
     cases hv:Am.g7 h cs with
     |none=>rw[hv] at hx;cases hx
     |some xs=>
      rw[hv] at hx
      simp at hx
      subst hx
      rcases hc with hc|hc
      ·cases hc
      ·have cA:cZ w G h [.ptr n 0 sz 0] [v]:=hc
       have hp:=(cA.2 0 _ v rfl rfl).2 (by rw[hn];simp)
       obtain⟨vb,oQ⟩:=hp
       obtain⟨q1,q2,q3⟩:=H.box n cs hn
       have bZ:∀(cs:List aj) (o:Nat) (xs:List C),(∀(j:Nat) (c:aj),cs[j]? =some c->∃v,w.cell? (ad (G.g n).b (o+j))=some v/\v.oneCell'=true/\RC w G h c v)->Am.g7 h cs=some xs->
         ∃bx:List PC,bx.map PC.er=xs/\∀j c,bx[j]? =some c->w.cell? (ad (G.g n).b (o+j))=some c.val/\Good w c:=by
        intro cs
        induction cs with
        |nil=>
         intro o xs _ hx
         simp only[Am.g7] at hx
         injection hx with hx
         subst hx
         exact⟨[],rfl,by simp⟩
        |cons c cs ih=>
         intro o xs iw hx
         simp only[Am.g7] at hx
         split at hx
         ·rename_i x au e1 e2
          injection hx with hx
          subst hx
          obtain⟨u,u1,_,u2⟩:=iw 0 c rfl
          obtain⟨pc,a1,a2,a3⟩:=H.cq e1 u2
          obtain⟨bx,b1,b2⟩:=ih (o+1) au (fun j c hj=>by
           have:=iw (j+1) c hj
           rwa[show o+(j+1)=o+1+j from by omega] at this) e2
          refine⟨pc::bx,by simp[a1,b1],fun j c hj=>?_⟩
          cases j with
          |zero=>simp at hj;subst hj;rw[a2];exact⟨u1,a3⟩
          |succ j=>
           have:=b2 j c (by simpa using hj)
           rwa[show o+1+j=o+(j+1) from by omega] at this
         ·cases hx
       obtain⟨bx,b1,b2⟩:=bZ cs (G.g n).o xs q3 hv
       exact⟨bx,(G.g n).b,(G.g n).o,b1,by simpa using oQ,q2.lt,b2⟩
    ·cases hx
   ·cases hx
  |cH xs off=>
   simp only[Am.iG] at hx
   split at hx
   ·rename_i h0
    subst h0
    injection hx with hx
    subst hx
    rcases hc with hc|hc
    ·cases hc
    ·have cA:cZ w G h [.cH xs 0] [v]:=hc
     obtain⟨b,o,pe,p1,p2,p3,p4⟩:=(cA.2 0 _ v rfl rfl).2
     exact⟨pe,b,o,p2,by simpa using p1,H.gi b p3,fun j c hj=>⟨(p4 j c hj).1,(p4 j c hj).2.1⟩⟩
   ·cases hx
  |c y=>exact one (.c y) hx hc
  |nil sz=>exact one (.nil sz) hx hc
  |sl n sz lo len=>exact one (.sl n sz lo len) hx hc
  |bE n k aE off sz len=>exact one (.bE n k aE off sz len) hx hc
  |c7 n k aE off sz i=>exact one (.c7 n k aE off sz i) hx hc
  |fn f cF=>exact one (.fn f cF) hx hc
  |bq=>exact one .bq hx hc
 |agg cs=>
  simp only[Am.iG] at hx
  cases hv:Am.g7 h cs with
  |none=>rw[hv] at hx;cases hx
  |some xs=>
   rw[hv] at hx
   simp at hx
   subst hx
   obtain⟨vs,e,hl⟩:∃vs:List Value,v=.agg vs.toArray/\cZ w G h cs vs:=hc
   obtain⟨bx,a1,a2,a3⟩:=H.g7 hv hl
   exact⟨bx,a1,a3,by rw[e,a2]⟩
 |br xs=>simp[Am.iG] at hx
theorem HR.ly (H:HR B E w G h used tk):∀{xs:List ak} {ds:List Dv} {vs:List Value},ly h xs=some ds->vs.length=xs.length->
  (∀(j:Nat) (x:ak) (v:Value),xs[j]? =some x->vs[j]? =some v->RA w G h x v)->GX w ds vs
 |[],ds,vs,hx,hl,hc=>by
  simp only[Am.ly] at hx
  injection hx with hx
  subst hx
  exact⟨by simpa using hl,by simp⟩
 |x::xs,ds,vs,hx,hl,hc=>by
  simp only[Am.ly] at hx
  split at hx
  ·rename_i d uH e1 e2
   injection hx with hx
   subst hx
   match vs,hl with
   |v::vs,hl=>
    have a:=H.iG e1 (hc 0 x v rfl rfl)
    obtain⟨b1,b2⟩:=H.ly e2 (xs:=xs) (vs:=vs) (by simpa using hl) (fun j x v h1 h2=>hc (j+1) x v h1 h2)
    refine⟨by simp[b1],fun j d v hj hv=>?_⟩
    cases j with
    |zero=>simp at hj hv;subst hj;subst hv;exact a
    |succ j=>exact b2 j d v (by simpa using hj) (by simpa using hv)
  ·cases hx
end
end Go.Am
