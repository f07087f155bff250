/- Am5: named rows as data (views), and rows that move into other rows (takes). No condition. -/
import Derived.Test.YtbgmbplglejidaaAm4
set_option linter.unusedVariables false
namespace Go.Am
theorem oE {α:Type} {px:List (List α)} {lo len k j:Nat} {c:α} (h:At ((px.drop lo).take len) k j c):At px (lo+k) j c/\k<len:=by
 obtain⟨e,he,hj⟩:=h
 rw[List.getElem?_take] at he
 split at he
 ·rename_i hk
  rw[List.getElem?_drop] at he
  exact⟨⟨e,he,hj⟩,hk⟩
 ·cases he
section
variable {B:Nat} {E:Ex} {w0 w w':World} {G G':Gh} {h h':Nat->Option ao} {used used':Nat->Bool} {tk:List PC}
def kt (p:PB) (sz lo len:Nat) (v:Value):PC:=
 match v with
 |.slice a _ cap=>.list sz a cap ((p.px.drop lo).take len)
 |_=>.bool false
theorem E3 {gr:Bool} {m:Mode} {sz:Nat} {xs:List (List C)} {p:PB} (hr:tC B E w G gr m sz xs p) {lo len:Nat} {v:Value} (hv:jq p sz lo len v) (hl:lo+len<=xs.length):
  (kt p sz lo len v).er=.list sz ((xs.drop lo).take len)/\(kt p sz lo len v).val=v/\Good w (kt p sz lo len v)/\
  (∀b,aS b (kt p sz lo len v)->(p.nl=false/\b=p.b)\/aV b p.px):=by
 have fL:p.px.length=xs.length:=by rw[hr.er];simp
 rcases hv with⟨hn,rfl,rfl,rfl⟩|⟨hn,a,rfl,hc,ha⟩
 ·have h0:=(hr.nl hn).1
  refine⟨?_,?_,?_,?_⟩
  ·simp[kt,PC.dJ]
  ·simp[kt,PC.val]
  ·simp only[kt,List.drop_zero,List.take_zero];exact .nil _ _ _ hr.pos
  ·intro b hb
   simp only[kt,List.drop_zero,List.take_zero] at hb
   rw[aS.kq] at hb
   rcases hb with⟨hb,_⟩|⟨k,j,c,⟨e,he,_⟩,_⟩
   ·exact absurd rfl hb
   ·simp at he
 ·have hlen:((p.px.drop lo).take len).length=len:=by simp;omega
  refine⟨?_,?_,?_,?_⟩
  ·simp only[kt,PC.dJ]
   rw[hr.er,List.map_take,List.map_drop]
  ·simp[kt,PC.val];omega
  ·simp only[kt]
   by_cases h0:(p.px.drop lo).take len=[]
   ·rw[h0];exact .nil _ _ _ hr.pos
   ·have YV:0<len:=by
     rcases Nat.eq_zero_or_pos len with hz|hz
     ·subst hz;simp at h0
     ·exact hz
    have e:=ha (.inl (by omega))
    subst e
    obtain⟨a1,a2,a3⟩:=hr.dR hn
    refine .cons sz p.b (p.o+lo*sz) _ _ h0 (by omega) hr.pos (fun e he=>a2.1 e (List.mem_of_mem_drop (List.mem_of_mem_take he))) (fun k j c hk=>?_) (fun k j c hk=>a2.2.2 _ _ _ (oE hk).1)
    have:=a2.2.1 _ _ _ (oE hk).1
    rw[Nat.add_mul] at this
    rw[<-this]
    congr 2
    omega
  ·intro b hb
   simp only[kt] at hb
   rw[aS.kq] at hb
   rcases hb with⟨hb,o,ho⟩|⟨k,j,c,hk,hb⟩
   ·have YV:0<len:=by
     rcases Nat.eq_zero_or_pos len with hz|hz
     ·subst hz;simp at hb
     ·exact hz
    have e:=ha (.inl (by omega))
    rw[e] at ho
    injection ho with ho
    exact .inl ⟨hn,(m4 ho).1.symm⟩
   ·exact .inr ⟨_,_,_,(oE hk).1,hb⟩
theorem HR.cg (H:HR B E w G h used tk) {c:ah} {x:C} {v:Value} (hx:cg h c=some x) (hc:RC w G h c v):∃pc:PC,pc.er=x/\pc.val=v/\Good w pc:=by
 cases c with
 |c y=>
  simp only[Am.cg] at hx
  injection hx with hx
  subst hx
  obtain⟨pc,h1,h2,h3,_⟩:=hc
  exact⟨pc,h1,h2,h3⟩
 |nil sz=>
  simp only[Am.cg] at hx
  split at hx
  ·rename_i dL
   injection hx with hx
   subst hx
   have cv:v=.slice none 0 0:=hc
   subst cv
   exact⟨.list sz none 0 [],by simp[PC.dJ],rfl,.nil _ _ _ dL⟩
  ·cases hx
 |sl n sz lo len=>
  simp only[Am.cg] at hx
  split at hx
  ·rename_i gr m rs xs hn
   split at hx
   ·rename_i cI
    obtain⟨rfl,hl⟩:=cI
    injection hx with hx
    subst hx
    have hs:jq (G.g n) rs lo len v:=hc (by rw[hn];simp)
    obtain⟨a1,a2,a3,_⟩:=E3 (H.row n gr m rs xs hn) hs hl
    exact⟨_,a1,a2,a3⟩
   ·cases hx
  ·cases hx
 |bz n k az off sz len=>
  simp only[Am.cg] at hx
  split at hx
  ·rename_i gr rs xs hn
   split at hx
   ·rename_i cI
    subst cI
    obtain⟨pc,p1,p2,p3⟩:=hc gr xs hn
    have hr:=H.row n gr .live rs xs hn
    have aL:(G.g n).nl=false:=by
     cases hq:(G.g n).nl with
     |false=>rfl
     |true=>obtain⟨e,he,_⟩:=p1;rw[(hr.nl hq).1] at he;simp at he
    refine⟨pc,?_,p2,(hr.dR aL).2.1.2.2 _ _ _ p1⟩
    obtain⟨e,he,hj⟩:=p1
    rw[hr.er] at hx
    simp[he,hj] at hx
    exact hx
   ·cases hx
  ·cases hx
 |ptr _ _ _ _=>simp[Am.cg] at hx
 |cu _ _=>simp[Am.cg] at hx
 |fn _ _=>simp[Am.cg] at hx
 |cQ _ _ _ _ _ _=>simp[Am.cg] at hx
 |bm=>simp[Am.cg] at hx
theorem HR.gG (H:HR B E w G h used tk):∀{cs:List ah} {xs:List C} {vs:List Value},gG h cs=some xs->cN w G h cs vs->
  ∃bu:List PC,bu.map PC.er=xs/\bu.map PC.val=vs/\∀pc∈bu,Good w pc
 |[],xs,vs,hx,hc=>by
  simp only[Am.gG] at hx
  injection hx with hx
  subst hx
  have:vs=[]:=List.eq_nil_of_length_eq_zero (by simpa using hc.1)
  subst this
  exact⟨[],rfl,rfl,by simp⟩
 |c::cs,xs,vs,hx,hc=>by
  simp only[Am.gG] at hx
  split at hx
  ·rename_i x aq e1 e2
   injection hx with hx
   subst hx
   obtain⟨hlen,bQ⟩:=hc
   match vs,hlen with
   |v::vs,hlen=>
    obtain⟨pc,a1,a2,a3⟩:=H.cg e1 (bQ 0 c v rfl rfl).2
    obtain⟨bu,b1,b2,b3⟩:=H.gG e2 (cs:=cs) (vs:=vs) ⟨by simpa using hlen,fun j c u h1 h2=>bQ (j+1) c u h1 h2⟩
    refine⟨pc::bu,by simp[a1,b1],by simp[a2,b2],fun q hq=>?_⟩
    cases hq with
    |head=>exact a3
    |tail _ hq=>exact b3 q hq
  ·cases hx
def zA (w:World) (d:Dv) (v:Value):Prop:=
 match d.1 with
 |.one=>∃bu:List PC,bu.map PC.er=d.2/\(∀pc∈bu,Good w pc)/\bu.map PC.val=[v]
 |.agg=>∃bu:List PC,bu.map PC.er=d.2/\(∀pc∈bu,Good w pc)/\v=.agg (bu.map PC.val).toArray
 |.ptr=>∃(bu:List PC) (b o:Nat),bu.map PC.er=d.2/\v=.pointer (some (ad b o))/\b<w.heap.size/\
  ∀j c,bu[j]? =some c->w.cell? (ad b (o+j))=some c.val/\Good w c
def FA (w:World) (ds:List Dv) (vs:List Value):Prop:=
 vs.length=ds.length/\∀(j:Nat) (d:Dv) (v:Value),ds[j]? =some d->vs[j]? =some v->zA w d v
theorem HR.ig (H:HR B E w G h used tk) {x:aj} {d:Dv} {v:Value} (hx:ig h x=some d) (hc:RA w G h x v):zA w d v:=by
 have one:∀c:ah,(Am.cg h c).map (fun x=>((.one,[x]):Dv))=some d->RA w G h (.one c) v->zA w d v:=by
  intro c hx hc
  cases hv:Am.cg h c with
  |none=>rw[hv] at hx;cases hx
  |some y=>
   rw[hv] at hx
   simp at hx
   subst hx
   rcases hc with rfl|hc
   ·simp[Am.cg] at hv
   ·have cv:cN w G h [c] [v]:=hc
    obtain⟨pc,a1,a2,a3⟩:=H.cg hv (cv.2 0 c v rfl rfl).2
    exact⟨[pc],by simp[a1],by simpa using a3,by simp[a2]⟩
 cases x with
 |one c=>
  cases c with
  |ptr n k sz off=>
   simp only[Am.ig] at hx
   split at hx
   ·rename_i cs hn
    split at hx
    ·rename_i cI
     obtain⟨rfl,rfl⟩:=cI
     cases hv:Am.gG h cs with
     |none=>rw[hv] at hx;cases hx
     |some xs=>
      rw[hv] at hx
      simp at hx
      subst hx
      rcases hc with hc|hc
      ·cases hc
      ·have cv:cN w G h [.ptr n 0 sz 0] [v]:=hc
       have hp:=(cv.2 0 _ v rfl rfl).2 (by rw[hn];simp)
       obtain⟨uk,mE⟩:=hp
       obtain⟨q1,q2,q3⟩:=H.box n cs hn
       have cf:∀(cs:List ah) (o:Nat) (xs:List C),(∀(j:Nat) (c:ah),cs[j]? =some c->∃v,w.cell? (ad (G.g n).b (o+j))=some v/\v.oneCell'=true/\RC w G h c v)->Am.gG h cs=some xs->
         ∃bu:List PC,bu.map PC.er=xs/\∀j c,bu[j]? =some c->w.cell? (ad (G.g n).b (o+j))=some c.val/\Good w c:=by
        intro cs
        induction cs with
        |nil=>
         intro o xs _ hx
         simp only[Am.gG] at hx
         injection hx with hx
         subst hx
         exact⟨[],rfl,by simp⟩
        |cons c cs ih=>
         intro o xs gW hx
         simp only[Am.gG] at hx
         split at hx
         ·rename_i x aq e1 e2
          injection hx with hx
          subst hx
          obtain⟨u,u1,_,u2⟩:=gW 0 c rfl
          obtain⟨pc,a1,a2,a3⟩:=H.cg e1 u2
          obtain⟨bu,b1,b2⟩:=ih (o+1) aq (fun j c hj=>by
           have:=gW (j+1) c hj
           rwa[show o+(j+1)=o+1+j from by omega] at this) e2
          refine⟨pc::bu,by simp[a1,b1],fun j c hj=>?_⟩
          cases j with
          |zero=>simp at hj;subst hj;rw[a2];exact⟨u1,a3⟩
          |succ j=>
           have:=b2 j c (by simpa using hj)
           rwa[show o+1+j=o+(j+1) from by omega] at this
         ·cases hx
       obtain⟨bu,b1,b2⟩:=cf cs (G.g n).o xs q3 hv
       exact⟨bu,(G.g n).b,(G.g n).o,b1,by simpa using mE,q2.lt,b2⟩
    ·cases hx
   ·cases hx
  |cu xs off=>
   simp only[Am.ig] at hx
   split at hx
   ·rename_i h0
    subst h0
    injection hx with hx
    subst hx
    rcases hc with hc|hc
    ·cases hc
    ·have cv:cN w G h [.cu xs 0] [v]:=hc
     obtain⟨b,o,pe,p1,p2,p3,p4⟩:=(cv.2 0 _ v rfl rfl).2
     exact⟨pe,b,o,p2,by simpa using p1,H.fW b p3,fun j c hj=>⟨(p4 j c hj).1,(p4 j c hj).2.1⟩⟩
   ·cases hx
  |c y=>exact one (.c y) hx hc
  |nil sz=>exact one (.nil sz) hx hc
  |sl n sz lo len=>exact one (.sl n sz lo len) hx hc
  |bz n k az off sz len=>exact one (.bz n k az off sz len) hx hc
  |cQ n k az off sz i=>exact one (.cQ n k az off sz i) hx hc
  |fn f cr=>exact one (.fn f cr) hx hc
  |bm=>exact one .bm hx hc
 |agg cs=>
  simp only[Am.ig] at hx
  cases hv:Am.gG h cs with
  |none=>rw[hv] at hx;cases hx
  |some xs=>
   rw[hv] at hx
   simp at hx
   subst hx
   obtain⟨vs,e,hl⟩:∃vs:List Value,v=.agg vs.toArray/\cN w G h cs vs:=hc
   obtain⟨bu,a1,a2,a3⟩:=H.gG hv hl
   exact⟨bu,a1,a3,by rw[e,a2]⟩
 |bn xs=>simp[Am.ig] at hx
theorem HR.kx (H:HR B E w G h used tk):∀{xs:List aj} {ds:List Dv} {vs:List Value},kx h xs=some ds->vs.length=xs.length->
  (∀(j:Nat) (x:aj) (v:Value),xs[j]? =some x->vs[j]? =some v->RA w G h x v)->FA w ds vs
 |[],ds,vs,hx,hl,hc=>by
  simp only[Am.kx] at hx
  injection hx with hx
  subst hx
  exact⟨by simpa using hl,by simp⟩
 |x::xs,ds,vs,hx,hl,hc=>by
  simp only[Am.kx] at hx
  split at hx
  ·rename_i d tK e1 e2
   injection hx with hx
   subst hx
   match vs,hl with
   |v::vs,hl=>
    have a:=H.ig e1 (hc 0 x v rfl rfl)
    obtain⟨b1,b2⟩:=H.kx e2 (xs:=xs) (vs:=vs) (by simpa using hl) (fun j x v h1 h2=>hc (j+1) x v h1 h2)
    refine⟨by simp[b1],fun j d v hj hv=>?_⟩
    cases j with
    |zero=>simp at hj hv;subst hj;subst hv;exact a
    |succ j=>exact b2 j d v (by simpa using hj) (by simpa using hv)
  ·cases hx
end
end Go.Am
