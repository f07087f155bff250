/- AmA, AmD, AmE: parts of the proof. No condition. -/
import Derived.Test.YthildlkhnnogiaaAmS
import Derived.Test.YthildlkhnnogiaaAmU
set_option linter.unusedVariables false
section
namespace Go.Am
theorem ab.Bp (n:Nat) (c:ab):c.gp n=c\/c.gp n=.aX:=by
 cases c<;>first|(exact .inl rfl)|skip
 ·rename_i m k au off sz len
  cases h:Nat.beq m n with
  |true=>exact .inr (by simp[ab.gp,h])
  |false=>exact .inl (by simp[ab.gp,h])
 ·rename_i m k au off sz i
  cases h:Nat.beq m n with
  |true=>exact .inr (by simp[ab.gp,h])
  |false=>exact .inl (by simp[ab.gp,h])
theorem ab.acT (n:Nat) (c:ab):(c.gp n).gp n=c.gp n:=by
 rcases c.Bp n with h|h
 ·rw[h,h]
 ·rw[h];rfl
theorem ab.acU {n m:Nat} {c:ab} (h:(c.gp n).fL m):c.fL m:=by
 rcases c.Bp n with h1|h1
 ·rwa[h1] at h
 ·rw[h1] at h;exact h.elim
theorem ab.DQ (n:Nat) (c:ab) (hc:c.fR=false):c.cut n=c.gp n:=by
 cases c<;>first|rfl|(simp[ab.fR] at hc)
theorem ab.Bq (n:Nat) (c:ab):(c.cut n).cut n=c.cut n:=by
 by_cases hc:c.fR=false
 ·rw[ab.DQ n c hc]
  rcases c.Bp n with h|h
  ·rw[h,ab.DQ n c hc,h]
  ·rw[h];rfl
 ·cases c<;>first|(simp[ab.fR] at hc;done)|skip
  simp only[ab.cut,List.map_map]
  congr 1
  apply List.map_congr_left
  intro x _
  exact ab.acT n x
theorem ab.Br {n m:Nat} {c:ab} (h:(c.cut n).ref m):c.ref m:=by
 by_cases hc:c.fR=false
 ·rw[ab.DQ n c hc] at h
  rcases c.Bp n with h1|h1
  ·rwa[h1] at h
  ·rw[h1] at h;exact h.elim
 ·cases c<;>first|(simp[ab.fR] at hc;done)|skip
  obtain⟨x,hx,hm⟩:=h
  obtain⟨y,hy,rfl⟩:=List.mem_map.1 hx
  exact⟨y,hy,ab.acU hm⟩
theorem ah.Br {n m:Nat} {x:ah} (h:(x.cut n).ref m):x.ref m:=by
 cases x with
 |one c=>exact ab.Br h
 |agg cs=>
  obtain⟨c,hc,hm⟩:=h
  obtain⟨y,hy,rfl⟩:=List.mem_map.1 hc
  exact⟨y,hy,ab.Br hm⟩
 |bk xs=>
  obtain⟨x,hx,c,hc,hm⟩:=h
  obtain⟨y,hy,rfl⟩:=List.mem_map.1 hx
  obtain⟨z,hz,rfl⟩:=List.mem_map.1 hc
  exact⟨y,hy,z,hz,ab.Br hm⟩
theorem ah.Bq (n:Nat) (x:ah):(x.cut n).cut n=x.cut n:=by
 cases x with
 |one c=>simp only[ah.cut,ab.Bq]
 |agg cs=>
  simp only[ah.cut,List.map_map]
  congr 1
  apply List.map_congr_left
  intro x _
  exact ab.Bq n x
 |bk xs=>
  simp only[ah.cut,List.map_map]
  congr 1
  apply List.map_congr_left
  intro x _
  simp only[Function.comp,List.map_map]
  congr 1
  apply List.map_congr_left
  intro y _
  exact ab.Bq n y
section
variable {B:Nat} {E:Ex} {w0 w w':World} {G G':Gh} {N:Nat} {h h':Nat->Option aj} {used:Nat->Bool}
variable {P:Program} {a:Act} {σ σ':St} {n:Nat}
theorem uK {m:Nat} (hm:(h m).map (aj.cut n)≠none):h m≠none:=by
 intro hh;rw[hh] at hm;exact hm rfl
theorem wT {m:Nat} {gr:Bool} {mo:Mode} {sz:Nat} {xs:List (List C)} (hm:(h m).map (aj.cut n)=some (.row gr mo sz xs)):h m=some (.row gr mo sz xs):=by
 cases hh:h m with
 |none=>rw[hh] at hm;cases hm
 |some b=>
  rw[hh] at hm
  cases b with
  |box cs=>simp[aj.cut] at hm
  |row aW iv ax ak=>simpa[aj.cut] using hm
theorem MD {m:Nat} {cs:List ab} (hm:(h m).map (aj.cut n)=some (.box cs)):∃eO,h m=some (.box eO)/\cs=eO.map (·.cut n):=by
 cases hh:h m with
 |none=>rw[hh] at hm;cases hm
 |some b=>
  rw[hh] at hm
  cases b with
  |box eO=>simp[aj.cut] at hm;exact⟨eO,rfl,hm.symm⟩
  |row aW iv ax ak=>simp[aj.cut] at hm
theorem fV.cut {c:ab} {v:Value} (hc:fV w G h c v):fV w G (fun m=>(h m).map (aj.cut n)) (c.gp n) v:=by
 rcases c.Bp n with e|e
 ·rw[e]
  cases c with
  |c x=>exact hc
  |nil sz=>exact hc
  |ptr m k sz off=>exact fun hm=>hc (uK hm)
  |cd xs off=>exact hc
  |sl m sz lo len=>exact fun hm=>hc (uK hm)
  |bf m k au off sz len=>exact fun gr xs hm=>hc gr xs (wT hm)
  |bX m k au off sz i=>exact fun gr xs hm=>hc gr xs (wT hm)
  |bK xs off j m sz len=>
   obtain⟨b,o,pe,h1,h2,h3,h4,u,u1,u2,u3⟩:=hc
   exact⟨b,o,pe,h1,h2,h3,h4,u,u1,u2,fun hm=>u3 (uK hm)⟩
  |fn f bI=>exact hc
  |aX=>trivial
 ·rw[e];trivial
theorem RC.cut {c:ab} {v:Value} (hc:RC w G h c v):RC w G (fun m=>(h m).map (aj.cut n)) (c.cut n) v:=by
 by_cases hf:c.fR=false
 ·rw[qh _ _ _ _ _ hf] at hc
  rw[ab.DQ n c hf]
  have h1:=hc.cut (n:=n)
  rcases c.Bp n with e|e
  ·rw[e] at h1⊢;rw[qh _ _ _ _ _ hf];exact h1
  ·rw[e];trivial
 ·cases c<;>first|(simp[ab.fR] at hf;done)|skip
  obtain⟨vs,h1,h2,h3⟩:=hc
  refine⟨vs,h1,by simpa using h2,fun j c u hj hu=>?_⟩
  rw[List.getElem?_map] at hj
  cases cA:(_:List ab)[j]? with
  |none=>rw[cA] at hj;cases hj
  |some c0=>
   rw[cA] at hj
   injection hj with hj
   subst hj
   exact⟨(h3 j c0 u cA hu).1,(h3 j c0 u cA hu).2.cut⟩
theorem cb.cut {cs:List ab} {vs:List Value} (hc:cb w G h cs vs):cb w G (fun m=>(h m).map (aj.cut n)) (cs.map (·.cut n)) vs:=by
 refine⟨by simpa using hc.1,fun j c u hj hu=>?_⟩
 rw[List.getElem?_map] at hj
 cases cA:cs[j]? with
 |none=>rw[cA] at hj;cases hj
 |some c0=>
  rw[cA] at hj
  injection hj with hj
  subst hj
  exact⟨(hc.2 j c0 u cA hu).1,(hc.2 j c0 u cA hu).2.cut⟩
theorem RV.cut {ag:Bool} {cs:List ab} {v:Value} (hc:RV w G h ag cs v):RV w G (fun m=>(h m).map (aj.cut n)) ag (cs.map (·.cut n)) v:=by
 unfold RV at*
 split
 ·rename_i h1
  simp only[h1,if_true] at hc
  obtain⟨vs,e,hv⟩:=hc
  exact⟨vs,e,hv.cut⟩
 ·rename_i h1
  simp only[h1] at hc
  exact cb.cut hc
theorem RA.cut {x:ah} {v:Value} (hc:RA w G h x v):RA w G (fun m=>(h m).map (aj.cut n)) (x.cut n) v:=by
 cases x with
 |one c=>
  rcases hc with rfl|hc
  ·exact .inl rfl
  ·exact .inr (RV.cut (n:=n) hc)
 |agg cs=>exact RV.cut (n:=n) (ag:=true) hc
 |bk xs=>
  obtain⟨vs,e,hl,hv⟩:=hc
  refine⟨vs,e,by simpa using hl,fun j x u hj hu=>?_⟩
  rw[List.getElem?_map] at hj
  cases cA:xs[j]? with
  |none=>rw[cA] at hj;cases hj
  |some x0=>
   rw[cA] at hj
   injection hj with hj
   subst hj
   exact(hv j x0 u cA hu).cut
theorem R.cut (r:R B E w0 N σ a w G) (n:Nat):R B E w0 N (σ.cut n) a w G:=by
 have H:=r.hr
 refine⟨r.defers,r.size,fun s=>(r.env s).cut,fun s m hm=>r.nO s m (ah.Br hm),?_,r.fr,fun m p b hp hb=>?_,r.t8⟩
 ·refine⟨fun m hm=>H.gT m (uK hm),fun m cs c q hm hc hr=>?_,fun m cs hm=>?_,fun m gr mo sz xs hm=>H.row m gr mo sz xs (wT hm),fun m hm=>H.own m (uK hm),
   fun m m' hm bm=>H.inj m m' (uK hm) (uK bm),H.e7,H.ov,fun m m' gr mo sz xs aW iv ax ak hm bm=>H.eV m m' gr mo sz xs aW iv ax ak (wT hm) (wT bm),
   fun m gr sz xs hm b hb m' bm=>H.live m gr sz xs (wT hm) b hb m' (uK bm),by intro i pc hi;simp at hi,by intro i j pc cm b _ hi;simp at hi,by intro i pc n gr m sz xs b hi;simp at hi⟩
  ·obtain⟨eO,h1,rfl⟩:=MD hm
   obtain⟨c0,cA,rfl⟩:=List.mem_map.1 hc
   exact H.gd m eO c0 q h1 cA (ab.Br hr)
  ·obtain⟨eO,h1,rfl⟩:=MD hm
   obtain⟨a1,a2,a3⟩:=H.box m eO h1
   refine⟨a1,a2,fun j c hj=>?_⟩
   rw[List.getElem?_map] at hj
   cases cA:eO[j]? with
   |none=>rw[cA] at hj;cases hj
   |some c0=>
    rw[cA] at hj
    injection hj with hj
    subst hj
    obtain⟨v,b1,b2,b3⟩:=a3 j c0 cA
    exact⟨v,b1,b2,b3.cut⟩
 ·have aE:(σ.h m).map (aj.cut n)=some b:=hb
  cases hh:σ.h m with
  |none=>rw[hh] at aE;cases aE
  |some b0=>
   obtain⟨p1,p2,p3,p4,p5,p6⟩:=r.nF m p b0 hp hh
   refine⟨p1,p2,p3,p4,p5,fun gr sz xs e=>?_⟩
   subst e
   have:=wT aE
   rw[hh] at this
   injection this with this
   exact p6 gr sz xs this
structure AV (q:Nat) (w:World) (G:Gh) (h:Nat->Option aj) (used:Nat->Prop) (w':World) (G':Gh) (h':Nat->Option aj):Prop where
 im:∀b,G.Im b->G'.Im b
 cell:∀b,G.Im b->∀o,w'.cell? (ad b o)=w.cell? (ad b o)
 name:∀n,used n->h' n≠none->h n≠none/\(G'.g n).nl=(G.g n).nl/\(G'.g n).b=(G.g n).b/\(G'.g n).o=(G.g n).o/\(G'.g n).cap=(G.g n).cap/\(G'.g n).na=(G.g n).na
 live:∀n gr sz xs,n≠q->used n->h' n=some (.row gr .live sz xs)->(∃pj hZ,h n=some (.row pj .live sz hZ))/\
  ∀k j pc,At (G.g n).px k j pc->pc.f6=true->∃cm,At (G'.g n).px k j cm/\cm.val=pc.val/\cm.f6=true
 box:∀b o v,G.Im b->w.cell? (ad b o)=some v->w'.cell? (ad b o)=some v
theorem fV.oA {q:Nat} {used:Nat->Prop} (K:AV q w G h used w' G' h') {c:ab} {v:Value} (hq:c.gp q=c) (hr:∀m,c.fL m->used m) (hc:fV w G h c v):fV w' G' h' c v:=by
 cases c with
 |c x=>
  obtain⟨pc,h1,h2,h3,h4⟩:=hc
  exact⟨pc,h1,h2,h3.congr fun b hb o=>K.cell b (h4 b hb) o,fun b hb=>K.im b (h4 b hb)⟩
 |nil sz=>exact hc
 |ptr n k sz off=>
  intro hn
  obtain⟨h0,e1,e2,e3,e4,e5⟩:=K.name n (hr n rfl) hn
  rw[e1,e2,e3]
  exact hc h0
 |cd xs off=>
  obtain⟨b,o,pe,h1,h2,h3,h4⟩:=hc
  refine⟨b,o,pe,h1,h2,K.im b h3,fun j c hj=>?_⟩
  obtain⟨a1,a2,a3⟩:=h4 j c hj
  exact⟨(K.cell b h3 _).trans a1,a2.congr fun b' aE o'=>K.cell b' (a3 b' aE) o',fun b' aE=>K.im b' (a3 b' aE)⟩
 |sl n sz lo len=>
  intro hn
  obtain⟨h0,e1,e2,e3,e4,e5⟩:=K.name n (hr n rfl) hn
  have:=hc h0
  unfold eU at*
  rw[e1,e2,e3,e4,e5]
  exact this
 |bf n k au off sz len=>
  have av:n≠q:=by
   rintro rfl
   simp[ab.gp,Nat.beq_refl] at hq
  intro gr xs hn
  obtain⟨⟨pj,hZ,h0⟩,hl⟩:=K.live n gr au xs av (hr n rfl) hn
  obtain⟨pc,p1,p2,p3⟩:=hc pj hZ h0
  obtain⟨cm,q1,q2,q3⟩:=hl k off pc p1 p3
  exact⟨cm,q1,q2.trans p2,q3⟩
 |bX n k au off sz i=>
  have av:n≠q:=by
   rintro rfl
   simp[ab.gp,Nat.beq_refl] at hq
  intro gr xs hn
  obtain⟨⟨pj,hZ,h0⟩,hl⟩:=K.live n gr au xs av (hr n rfl) hn
  obtain⟨pc,b,o,len,cap,p1,p2,p3,p4⟩:=hc pj hZ h0
  obtain⟨cm,q1,q2,q3⟩:=hl k off pc p1 p3
  exact⟨cm,b,o,len,cap,q1,q2.trans p2,q3,p4⟩
 |bK xs off j n sz len=>
  obtain⟨b,o,pe,h1,h2,h3,h4,h5⟩:=hc
  obtain⟨u,u1,u2,u3⟩:=h5
  refine⟨b,o,pe,h1,h2,K.im b h3,fun i c gL hi=>?_,u,(K.cell b h3 _).trans u1,u2,fun hn=>?_⟩
  ·obtain⟨a1,a2,a3⟩:=h4 i c gL hi
   exact⟨(K.cell b h3 _).trans a1,a2.congr fun b' aE o'=>K.cell b' (a3 b' aE) o',fun b' aE=>K.im b' (a3 b' aE)⟩
  ·obtain⟨h0,e1,e2,e3,e4,e5⟩:=K.name n (hr n rfl) hn
   have:=u3 h0
   unfold eU at*
   rw[e1,e2,e3,e4,e5]
   exact this
 |fn f bI=>exact hc
 |aX=>trivial
theorem RC.oA {q:Nat} {used:Nat->Prop} (K:AV q w G h used w' G' h') {c:ab} {v:Value} (hq:c.cut q=c) (hr:∀m,c.ref m->used m) (hc:RC w G h c v):RC w' G' h' c v:=by
 by_cases hf:c.fR=false
 ·rw[qh _ _ _ _ _ hf] at*
  rw[ab.DQ q c hf] at hq
  exact hc.oA K hq fun m hm=>hr m (by rw[ab.Rr c m hf];exact hm)
 ·cases c<;>first|(simp[ab.fR] at hf;done)|skip
  rename_i f bI
  obtain⟨vs,h1,h2,h3⟩:=hc
  injection hq with _ hq
  refine⟨vs,h1,h2,fun j c u hj hu=>⟨(h3 j c u hj hu).1,(h3 j c u hj hu).2.oA K ?_ fun m hm=>hr m ⟨c,List.mem_of_getElem? hj,hm⟩⟩⟩
  have:=congrArg (fun l:List ab=>l[j]?) hq
  simp only[List.getElem?_map,hj,Option.map_some,Option.some.injEq] at this
  exact this
theorem cb.oA {q:Nat} {used:Nat->Prop} (K:AV q w G h used w' G' h') {cs:List ab} {vs:List Value} (hq:∀c∈cs,c.cut q=c) (hr:∀c∈cs,∀m,c.ref m->used m) (hc:cb w G h cs vs):cb w' G' h' cs vs:=
 ⟨hc.1,fun j c u hj hu=>⟨(hc.2 j c u hj hu).1,(hc.2 j c u hj hu).2.oA K (hq c (List.mem_of_getElem? hj)) (hr c (List.mem_of_getElem? hj))⟩⟩
theorem RV.oA {q:Nat} {used:Nat->Prop} (K:AV q w G h used w' G' h') {ag:Bool} {cs:List ab} {v:Value} (hq:∀c∈cs,c.cut q=c) (hr:∀c∈cs,∀m,c.ref m->used m) (hc:RV w G h ag cs v):RV w' G' h' ag cs v:=by
 unfold RV at*
 split
 ·rename_i h1
  simp only[h1,if_true] at hc
  obtain⟨vs,e,hv⟩:=hc
  exact⟨vs,e,hv.oA K hq hr⟩
 ·rename_i h1
  simp only[h1] at hc
  exact cb.oA K hq hr hc
theorem Y8 {q:Nat} {cs:List ab} (h:cs.map (·.cut q)=cs):∀c∈cs,c.cut q=c:=by
 intro c hc
 obtain⟨j,hj⟩:=List.getElem?_of_mem hc
 have:=congrArg (fun l:List ab=>l[j]?) h
 simp only[List.getElem?_map,hj,Option.map_some,Option.some.injEq] at this
 exact this
theorem RA.oA {q:Nat} {used:Nat->Prop} (K:AV q w G h used w' G' h') {x:ah} {v:Value} (hq:x.cut q=x) (hr:∀m,x.ref m->used m) (hc:RA w G h x v):RA w' G' h' x v:=by
 cases x with
 |one c=>
  injection hq with hq
  exact hc.imp id fun hv=>RV.oA K (fun c' bZ=>by simp at bZ;subst bZ;exact hq) (fun c' bZ m hm=>hr m (by simp at bZ;subst bZ;exact hm)) hv
 |agg cs=>
  injection hq with hq
  exact RV.oA K (Y8 hq) (fun c' bZ m hm=>hr m ⟨c',bZ,hm⟩) hc
 |bk xs=>
  injection hq with hq
  obtain⟨vs,e,hl,hv⟩:=hc
  refine⟨vs,e,hl,fun j x u hj hu=>RV.oA K (Y8 ?_) (fun c' bZ m hm=>hr m ⟨x,List.mem_of_getElem? hj,c',bZ,hm⟩) (hv j x u hj hu)⟩
  have:=congrArg (fun l:List (Bool×List ab)=>l[j]?) hq
  simp only[List.getElem?_map,hj,Option.map_some,Option.some.injEq] at this
  exact congrArg Prod.snd this
end
end Go.Am
end
section
namespace Go.Am
section
variable {B:Nat} {E:Ex} {w0 w w':World} {G G':Gh} {N:Nat} {h h':Nat->Option aj} {used:Nat->Bool}
variable {P:Program} {a:Act} {σ σ':St} {n:Nat}
structure GR (B:Nat) (E:Ex) (w:World) (G:Gh) (h:Nat->Option aj) (n k off:Nat) (q:PC):Prop where
 dk:Good w q
 sep:Sep q
 nr:nR w q
 own:∀b,aK b q->¬G.Im b/\cP w b/\(B<=b\/E b)
 name:∀b,aK b q->∀m,h m≠none->(G.g m).nl=false->b≠(G.g m).b
 row:∀b,aK b q->∀m gr mo sz xs,m≠n->h m=some (.row gr mo sz xs)->¬aP b (G.g m).px
 rest:∀b,aK b q->∀k' j' c,At (G.g n).px k' j' c->(k',j')≠(k,off)->¬aK b c
theorem R.nest (r:R B E w0 N σ a w G) {rs k off:Nat} {xs:List (List C)} (hn:σ.h n=some (.row true .live rs xs)) (np:n<aJ) (afw:∀s,(σ.env s).cut n=σ.env s)
  (afx:∀m cs c,σ.h m=some (.box cs)->c∈cs->c.cut n=c) {pe:List PC} (gN:(G.g n).px[k]? =some pe) (mq:off+1=rs) {q:PC} {cur:Array Value} {et:TypeId}
  (hg:w.heap[(G.g n).b]? =some (.cells cur et (0,0))) (hq:GR B E w G σ.h n k off q):
  R B E w0 N (σ.cW n (.row true .live rs (xs.set k ((pe.map PC.er).set off q.er)))) a (dY w (G.g n).b ((G.g n).o+k*rs+off) [q.val] cur) ⟨G.Im,ao G.g n {G.g n with px:=(G.g n).px.set k (pe.set off q)}⟩:=by
 have H:=r.hr
 have hr:=H.row n true .live rs xs hn
 have bi:σ.h n≠none:=by rw[hn];simp
 have aD:(G.g n).nl=false:=by
  cases hq:(G.g n).nl with
  |false=>rfl
  |true=>rw[(hr.nl hq).1] at gN;simp at gN
 obtain⟨l1,l2,l3⟩:=hr.cZ aD
 obtain⟨oe,nj,pu⟩:=H.own n bi aD
 have vl:pe.length=rs:=l2.1 pe (List.mem_of_getElem? gN)
 have af3:off<pe.length:=by omega
 have hold:At (G.g n).px k off pe[off]:=⟨pe,gN,List.getElem?_eq_getElem af3⟩
 have eP:(G.g n).o+k*rs+off+([q.val]:List Value).length<=cur.size:=by
  have:=yS hg (l2.2.1 k off _ hold)
  simp only[List.length_cons,List.length_nil]
  omega
 generalize j3:dY w (G.g n).b ((G.g n).o+k*rs+off) [q.val] cur=w2
 have cB:∀b,b≠(G.g n).b->w2.heap[b]? =w.heap[b]? :=fun b hb=>by rw[<-j3];exact ww b hb
 have oh:∀b,cP w b->cP w2 b:=fun b hb=>by rw[<-j3];exact Gt hg eP b hb
 have ky:w2.heap.size=w.heap.size:=by rw[<-j3];exact oO
 have OL:∀b,aK b q->b≠(G.g n).b:=fun b hb=>hq.name b hb n bi aD
 have gw:∀b,aP b (G.g n).px->b≠(G.g n).b:=fun b hb=>H.nc bi aD hn hb
 have jJ:∀b,aP b ((G.g n).px.set k (pe.set off q))->aK b q\/aP b (G.g n).px:=by
  rintro b ⟨k',j',c,bx,hb⟩
  rcases mZ gN bx with⟨_,_,rfl⟩|⟨h1,_⟩
  ·exact .inl hb
  ·exact .inr ⟨_,_,_,h1,hb⟩
 have zi:∀b,G.Im b->b≠(G.g n).b:=fun b hb he=>oe (he▸hb)
 have dR:lR w2 (G.g n).b (G.g n).o rs ((G.g n).px.set k (pe.set off q)):=by
  refine⟨fun e he=>?_,fun k' j' c bx=>?_,fun k' j' c bx=>?_⟩
  ·rcases List.mem_or_eq_of_mem_set he with he|rfl
   ·exact l2.1 e he
   ·rw[List.length_set];exact vl
  ·rw[<-j3,wv hg eP]
   rcases mZ gN bx with⟨rfl,rfl,rfl⟩|⟨h1,av⟩
   ·rw[if_pos ⟨Nat.le_refl _,by simp⟩]
    simp
   ·have:=Vp hr.pos l2.1 h1 hold av
    rw[if_neg (by simp only[List.length_cons,List.length_nil];omega)]
    exact l2.2.1 _ _ _ h1
  ·rcases mZ gN bx with⟨rfl,rfl,rfl⟩|⟨h1,av⟩
   ·exact hq.dk.congr fun b hb o=>fO (cB b (OL b hb)) o
   ·exact(l2.2.2 _ _ _ h1).congr fun b hb o=>fO (cB b (gw b ⟨_,_,_,h1,hb⟩)) o
 have K:AV n w G σ.h (fun m=>σ.used m=true) w2 ⟨G.Im,ao G.g n {G.g n with px:=(G.g n).px.set k (pe.set off q)}⟩ (ao σ.h n (some (.row true .live rs (xs.set k ((pe.map PC.er).set off q.er))))):=by
  refine⟨fun _ h=>h,fun b hb o=>fO (cB b (zi b hb)) o,fun m hm h0=>?_,fun m gr sz ak bj hm h0=>?_,fun b o v hb hv=>(fO (cB b (zi b hb)) o).trans hv⟩
  ·by_cases bj:m=n
   ·subst bj
    simp only[bo]
    exact⟨bi,trivial,trivial,trivial,trivial,trivial⟩
   ·rw[bP _ _ _ _ bj] at h0
    simp only[bP _ _ _ _ bj]
    exact⟨h0,trivial,trivial,trivial,trivial,trivial⟩
  ·rw[bP _ _ _ _ bj] at h0
   simp only[bP _ _ _ _ bj]
   exact⟨⟨gr,ak,h0⟩,fun k j pc h1 h2=>⟨pc,h1,rfl,h2⟩⟩
 have Hn:HR B E w2 ⟨G.Im,ao G.g n {G.g n with px:=(G.g n).px.set k (pe.set off q)}⟩ (ao σ.h n (some (.row true .live rs (xs.set k ((pe.map PC.er).set off q.er))))) σ.used []:=by
  refine H.ZS (fun b _ hb=>cB b (hb aD)) (by rw[ky];exact Nat.le_refl _) (fun b _ hb=>oh b hb) (fun _ h=>h) (H.gT n bi) (fun _=>⟨oe,nj,by rw[ky];exact pu⟩)
   (fun _ m hm h0 fa=>H.inj m n h0 bi hm fa aD) (fun _ m gr sz xs hm h0 b hb=>H.live m gr sz xs h0 b hb n bi aD) (fun cs c m hb=>by cases hb)
   (fun m cs c v hm h0 hc hv=>hv.oA K (afx m cs c h0 hc) fun p hp=>H.gd m cs c p h0 hc hp) ?_ ?_ ?_ (fun gr m sz xs _ _ i pc b hi=>by simp at hi) ?_
  ·refine⟨hr.pos,?_,(fun hl=>by rw[aD] at hl;cases hl),fun _=>⟨oh _ l1,dR,by show((G.g n).px.set k _).length<=_;simpa using l3⟩,fun _ _=>?_,?_,fun _ _ k' pc bx=>?_⟩
   ·show xs.set k _=((G.g n).px.set k _).map _
    rw[List.map_set,<-hr.er,List.map_set]
   ·obtain⟨r2,ie,e',r3,r4⟩:=hr.room aD rfl
    rw[hg] at r3
    injection r3 with r3
    injection r3 with r3 _ _
    subst r3
    obtain⟨MA,c1,c2⟩:=Dg (vs:=[q.val]) (o:=(G.g n).o+k*rs+off) hg eP
    rw[j3] at c1
    exact⟨r2,MA,et,c1,by rw[c2];exact r4⟩
   ·have cv:=hr.mode
    refine⟨fun b hb=>?_,fun k' j' c bx=>?_,fun k1 j1 c1 k2 j2 c2 b h1 h2 av hb aE=>?_⟩
    ·rcases jJ b hb with h1|h1
     ·exact⟨(hq.own b h1).1,oh b (hq.own b h1).2.1,(hq.own b h1).2.2⟩
     ·exact⟨(cv.1 b h1).1,oh b (cv.1 b h1).2.1,(cv.1 b h1).2.2⟩
    ·rcases mZ gN bx with⟨rfl,rfl,rfl⟩|⟨h1,_⟩
     ·exact hq.sep
     ·exact cv.2.1 _ _ _ h1
    ·rcases mZ gN h1 with⟨rfl,rfl,rfl⟩|⟨g1,n1⟩
     ·rcases mZ gN h2 with⟨rfl,rfl,rfl⟩|⟨g2,n2⟩
      ·exact av rfl
      ·exact hq.rest b hb _ _ _ g2 n2 aE
     ·rcases mZ gN h2 with⟨rfl,rfl,rfl⟩|⟨g2,n2⟩
      ·exact hq.rest b aE _ _ _ g1 n1 hb
      ·exact cv.2.2 _ _ _ _ _ _ b g1 g2 av hb aE
   ·have hz:=hr.nr rfl rfl
    rcases mZ gN bx with⟨_,_,rfl⟩|⟨h1,_⟩
    ·exact hq.nr.cz fun b hb arr e he=>⟨arr,(cB b (OL b hb)).trans he,rfl⟩
    ·exact(hz k' pc h1).cz fun b hb arr e he=>⟨arr,(cB b (gw b ⟨_,_,_,h1,hb⟩)).trans he,rfl⟩
  ·intro gr m sz ak hb hm n' aW m' ax eT Jb h0 bm b bL
   rcases jJ b bL with h1|h1
   ·exact hq.row b h1 n' aW m' ax eT Jb h0
   ·exact H.eV n n' true .live rs xs aW m' ax eT hn h0 (by simp) bm (Ne.symm Jb) b h1
  ·intro gr sz ak hb b bL
   rcases jJ b bL with h1|h1
   ·exact⟨fun _=>OL b h1,fun n' _ h0 hl=>hq.name b h1 n' h0 hl⟩
   ·exact⟨fun _=>gw b h1,fun n' _ h0 hl=>H.live n true rs xs hn b h1 n' h0 hl⟩
  ·intro _ _ b hb
   obtain⟨m,gr,mo,sz,ak,hm,h0,bL⟩:=hb
   exact H.nc bi aD h0 bL
 refine⟨r.defers,r.size,fun s=>(r.env s).oA K (afw s) fun m hm=>r.nO s m hm,r.nO,Hn,r.fr.one nj (fun b _ av=>cB b av) (by rw[ky];exact Nat.le_refl _) (by rw[<-j3];exact yq hg eP) (by rw[<-j3];rfl) (by rw[<-j3];rfl) (by rw[<-j3];rfl),fun m p b hp hb=>?_,r.t8⟩
 have bj:m≠n:=by
  rintro rfl
  have:=E.lt m p hp
  omega
 have aE:ao σ.h n (some (.row true .live rs (xs.set k ((pe.map PC.er).set off q.er)))) m=some b:=hb
 rw[bP _ _ _ _ bj] at aE
 have:=r.nF m p b hp aE
 simp only[bP _ _ _ _ bj]
 exact this
end
end Go.Am
end
section
namespace Go.Am
section
variable {B:Nat} {E:Ex} {w0 w w':World} {G G':Gh} {N:Nat} {h h':Nat->Option aj} {used:Nat->Bool}
variable {P:Program} {o:Oper} {a:Act} {σ σ':St} {Q:Exit->Act->World->Prop}
def AX (B:Nat) (E:Ex) (w:World) (G:Gh) (h:Nat->Option aj) (n k off sz:Nat) (zs:List (List C)) (v:Value):Prop:=
 ∃q:PC,q.val=v/\q.er=.list sz zs/\GR B E w G h n k off q
theorem HR.Zu (H:HR B E w G h used []) {n k off rs:Nat} {xs:List (List C)} (hn:h n=some (.row true .live rs xs)) (mq:off+1=rs) {pc:PC} (bO:At (G.g n).px k off pc):GR B E w G h n k off pc:=by
 have hr:=H.row n true .live rs xs hn
 have aD:(G.g n).nl=false:=by
  cases hq:(G.g n).nl with
  |false=>rfl
  |true=>obtain⟨e,he,_⟩:=bO;rw[(hr.nl hq).1] at he;simp at he
 obtain⟨l1,l2,l3⟩:=hr.cZ aD
 have hF:∀b,aK b pc->aP b (G.g n).px:=fun b hb=>⟨k,off,pc,bO,hb⟩
 refine⟨l2.2.2 _ _ _ bO,hr.mode.2.1 _ _ _ bO,hr.nr rfl rfl k pc (by rw[<-mq];exact bO),fun b hb=>hr.mode.1 b (hF b hb),fun b hb m h0 hl=>H.live n true rs xs hn b (hF b hb) m h0 hl,fun b hb m gr mo sz ak hm h0 aE=>?_,
  fun b hb k' j' c bx av aE=>hr.mode.2.2 _ _ _ _ _ _ b bx bO av aE hb⟩
 by_cases fY:mo=.aG
 ·subst fY
  exact(hr.mode.1 b (hF b hb)).1 ((H.row m gr .aG sz ak h0).mode b aE)
 ·exact H.eV n m true .live rs xs gr mo sz ak hn h0 (by simp) fY (Ne.symm hm) b (hF b hb) aE
theorem aln {t ty e:TypeId} {i:TypeInfo} (ht:P.underlying t=some (.slice e)) (hi:P.info? e=some i) (a ya:Option Addr) (c:Nat):
  (Builtin.append_ #[t,t] ty #[.slice a 0 0,.slice ya 0 c]).run P w=.ok (.slice a 0 0) w:=by
 cases ya<;>cases a<;>simp[Builtin.append_,run_underlying ht,sizeOf,typeInfo,hi,Builtin.lenOf,Builtin.firstCells,loadCells,loadCellsFrom,storeCells]
theorem Sep.flat {sz:Nat} {x:Option Addr} {cap:Nat} {px:List (List PC)} (hs:dd (px.map fun e=>e.map PC.er)=true):Sep (.list sz x cap px):=by
 have bG:∀k j c,At px k j c->c.er.dL=true:=by
  rintro k j c ⟨e,he,hj⟩
  have h6:=List.all_eq_true.1 hs (e.map PC.er) (by simp only[List.mem_map];exact⟨e,List.mem_of_getElem? he,rfl⟩)
  exact List.all_eq_true.1 h6 c.er (by simp only[List.mem_map];exact⟨c,List.mem_of_getElem? hj,rfl⟩)
 exact .list _ _ _ _ (fun k j c hk=>(Sep.fT (bG k j c hk)).1) (fun b o k j c _ hk=>(Sep.fT (bG k j c hk)).2 b) (fun k j c k' j' c' b hk _ _ hb=>absurd hb ((Sep.fT (bG k j c hk)).2 b))
theorem Yr {sz:Nat} {x:Option Addr} {cap b:Nat} {px:List (List PC)} (hs:dd (px.map fun e=>e.map PC.er)=true) (hb:aK b (.list sz x cap px)):∃o,x=some (ad b o):=by
 rw[aK.jw] at hb
 rcases hb with⟨_,ho⟩|⟨k,j,c,hk,hc⟩
 ·exact ho
 ·exact absurd ⟨k,j,c,hk,hc⟩ (uf hs b)
theorem adi (r:R B E w0 N σ a w G) {n k rs off sz rq tS by_:Nat} {t e:TypeId} {i:TypeInfo} {z:Value} {x y:Operand} {mx my:MO} {xs ls ys:List (List C)} {yc:ab}
  (ho:o.op=.call {callee:=.builtin .append,args:=#[x,y],argTypes:=#[t,t]}) (eR:bd x mx=true) (fo:bd y my=true)
  (ht:P.underlying t=some (.slice e)) (hi:P.info? e=some i) (hz:i.zero=some z) (bn:i.size=sz) (eC:0<sz) (mg:i.bytes=by_) (u0:0<by_) (pA:z.cells.size=sz)
  (hn:σ.h n=some (.row true .live rs xs)) (mq:off+1=rs) (hx:σ.ev mx=.one (.bf n k rs off rq tS)) (hl:(xs[k]?).bind (·[off]?)=some (.list sz ls)) (nh:dd ls=true)
  (hy:σ.ev my=.one yc) (hv:bQ σ.h yc=some (.list sz ys)) (lC:dd ys=true) (hb:(ls.length+ys.length)*by_<=e8):
  o.wp P a w (fun a' w'=>∃v,a'=a.put o.dst v/\R B E w0 N σ a w' G/\AX B E w' G σ.h n k off sz (ls++ys) v) Q:=by
 have H:=r.hr
 obtain⟨x1,_⟩:=r.ev eR
 obtain⟨y1,_⟩:=r.ev fo
 rw[hx] at x1
 rw[hy] at y1
 have hyj:yc≠ .aX:=by rintro rfl;simp[Am.bQ] at hv
 obtain⟨pc,p1,p2,p3⟩:=(x1.dB (by simp)).1 true xs hn
 obtain⟨aD,eQ,fz⟩:=H.Fs hn p1
 rw[hl] at fz
 injection fz with fz
 have gw:=H.Zu hn mq p1
 have hr:=H.row n true .live rs xs hn
 obtain⟨yp,e1,e2,e3⟩:=H.bQ hv (y1.dB hyj).1
 cases pc with
 |int kk nn=>simp[PC.er] at fz
 |bool bb=>simp[PC.er] at fz
 |list s' x0 cap ed=>
 rw[PC.cN] at fz
 injection fz with g1 g2
 subst g1
 cases yp with
 |int kk nn=>simp[PC.er] at e1
 |bool bb=>simp[PC.er] at e1
 |list s2 ya yc' py=>
 rw[PC.cN] at e1
 injection e1 with f1 f2
 have f1:=f1.symm
 subst f1
 have tD:ys.length=py.length:=by rw[<-f2];simp
 have hll:ls.length=ed.length:=by rw[g2];simp
 have I9:dd (ed.map fun e=>e.map PC.er)=true:=by rw[<-g2];exact nh
 have ago:dd (py.map fun e=>e.map PC.er)=true:=by rw[f2];exact lC
 have fH:dd ((ed++py).map fun e=>e.map PC.er)=true:=by
  rw[List.map_append]
  simp only[dd,List.all_append,Bool.and_eq_true]
  exact⟨I9,ago⟩
 have XD:(ed++py).map (fun e=>e.map PC.er)=ls++ys:=by rw[List.map_append,<-g2,f2]
 have N1:sV w sz py (a.eval y):=by rw[<-e2];exact sV.Q1 e3
 have dz:∀e∈ed,e.length=sz:=by
  intro e he
  cases eQ with
  |nil _ _ _ _=>simp at he
  |cons _ _ _ _ _ _ _ _ h4 _ _=>exact h4 e he
 have afK:∀k j c,At ed k j c->Good w c:=by
  intro k j c hk
  cases eQ with
  |nil _ _ _ _=>obtain⟨e,he,_⟩:=hk;simp at he
  |cons _ _ _ _ _ _ _ _ _ _ h6=>exact h6 k j c hk
 have BZ:∀e∈ed++py,e.length=sz:=fun e he=>(List.mem_append.1 he).elim (dz e) (N1.1 e)
 have am9:∀k j c,At (ed++py) k j c->Good w c:=fun k j c hk=>(qj hk).elim (fun h=>afK _ _ _ h.2) (fun h=>N1.2.1 _ _ _ h.2)
 have gy:∀k j c,At (ed++py) k j c->c.er.dL=true:=by
  rintro k j c ⟨e,he,hj⟩
  have h6:=List.all_eq_true.1 fH (e.map PC.er) (by simp only[List.mem_map];exact⟨e,List.mem_of_getElem? he,rfl⟩)
  exact List.all_eq_true.1 h6 c.er (by simp only[List.mem_map];exact⟨c,List.mem_of_getElem? hj,rfl⟩)
 have u5:cap=0->ed=[]:=by
  intro h0
  cases eQ with
  |nil _ _ _ _=>rfl
  |cons _ _ _ _ _ h1 h2 _ _ _ _=>subst h0;exact List.eq_nil_of_length_eq_zero (by omega)
 have OY:∀{u:Value} {w2:World},(Builtin.append_ #[t,t] o.type #[a.eval x,a.eval y]).run P w=.ok u w2->(execOp a.eval o).run P w=.ok (.value u) w2:=by
  intro u w2 aS
  simp[execOp,ho,resolve,invoke,builtin,aS]
 have B6:a.eval x=.slice x0 ed.length cap:=p2.symm
 by_cases u9:ed++py=[]
 ·obtain⟨rfl,rfl⟩:=List.append_eq_nil_iff.1 u9
  have cA:cap=0:=by
   rcases gw.nr with h0|⟨h0,_⟩
   ·exact h0
   ·exact absurd rfl h0
  subst cA
  have agp:ys=[]:=by rw[<-f2];rfl
  have afV:ls=[]:=by rw[g2];rfl
  refine jk (v:=.slice x0 0 0) (w':=w) (OY ?_) ⟨_,rfl,r,.list sz x0 0 [],rfl,by rw[PC.cN,agp,afV];rfl,gw⟩
  rw[B6,<-e2]
  exact aln ht hi _ _ _
 ·have L:wF B E w G (ao σ.h n none) sz .live ed (a.eval x):=by
   rcases gw.nr with h0|⟨h0,h1,b,ob,cur,et,rfl,h3,h4⟩
   ·subst h0
    have:=u5 rfl
    subst this
    exact .inl ⟨x0,B6,rfl⟩
   ·have dw:aK b (.list sz (some (ad b ob)) cap ed):=.here _ _ _ _ h0
    refine .inr ⟨b,ob,cap,cur,et,B6,h3,h4,h1,?_,?_,⟨(gw.own b dw).1,fun q hq rW he=>?_,fun q gr mo ax ak hq=>?_⟩,(gw.own b dw).2.2,fun b' aE=>absurd aE (uf I9 b')⟩
    ·cases eQ with
     |nil _ _ _ _=>exact absurd rfl h0
     |cons _ _ _ _ _ _ h2 _ _ _ _=>exact h2
    ·generalize e9:PC.list sz (some (ad b ob)) cap ed=p at eQ
     cases eQ with
     |int k n=>cases e9
     |bool b=>cases e9
     |nil _ _ _ _=>injection e9 with _ _ _ e4;exact absurd e4 h0
     |cons _ b' Q4 _ _ q1 q2 q3 q4 q5 q6=>
      injection e9 with f1 f2 f3 f4
      injection f2 with f2
      obtain⟨rfl,rfl⟩:=jF f2
      subst f1 f3 f4
      exact⟨q4,q5,q6⟩
    ·obtain⟨q1,q2⟩:=tc hq
     exact gw.name b dw q q1 rW he.symm
    ·obtain⟨q1,q2⟩:=kY hq
     exact gw.row b dw q gr mo ax ak q2 q1
  obtain⟨r1,r2,Dl,c',Yj,r3⟩:=N1
  have XP:(py.flatten.map PC.val).length=py.length*sz:=D3 r1
  have h1:∀u∈py.flatten.map PC.val,u.oneCell'=true:=fun u hu=>by obtain⟨pc,_,rfl⟩:=List.mem_map.1 hu;exact PC.hY pc
  have hB:=r.fr.size
  have EA:(ed++py).length=ed.length+py.length:=by simp
  rcases aae (P:=P) w (ty:=o.type) (B:=B) (E:=E) ht hi hz bn eC mg u0 dz L XP r3 h1 (by rw[<-hll,<-tD];exact hb) with⟨a0,k0,_,EE,_⟩|⟨b,ob,s8,cur,e',X8,b2,b3,b4,b5,b6,b7,b8,b9,aS⟩|⟨s8,arr,c1,c2,c3,c4,aS⟩
  ·exact absurd (by rw[EE,List.eq_nil_of_length_eq_zero k0];rfl) u9
  ·
   rw[B6] at X8
   injection X8 with q1 q2 q3
   subst q1 q3
   have vj:(ob+ed.length*sz)+(py.flatten.map PC.val).length<=cur.size:=by rw[XP,b3,Nat.add_assoc,<-Nat.add_mul];exact Nat.add_le_add_left (Nat.mul_le_mul_right _ b5) _
   generalize j3:dY w b (ob+ed.length*sz) (py.flatten.map PC.val) cur=w2 at aS
   have cB:∀x,x≠b->w2.heap[x]? =w.heap[x]? :=fun x hx=>by rw[<-j3];exact ww x hx
   have ky:w2.heap.size=w.heap.size:=by rw[<-j3];exact oO
   have ik:∀x,Cz w w2 x:=fun x=>by
    by_cases hx:x=b
    ·subst hx;rw[<-j3];exact yq b2 vj
    ·exact Cz.of_eq (cB x hx)
   have N9:¬G.Im b:=b7.1
   have fQ:∀k' j,k'<ed.length->j<sz->w2.cell? (ad b (ob+k'*sz+j))=w.cell? (ad b (ob+k'*sz+j)):=by
    intro k' j bx hj
    rw[<-j3,wv b2 vj,if_neg]
    rintro⟨q1,_⟩
    have:(k'+1)*sz<=ed.length*sz:=Nat.mul_le_mul_right _ bx
    rw[Nat.add_mul] at this
    omega
   have N4:∀{k' j c},At ed k' j c->k'<ed.length/\j<sz:=by
    rintro k' j c ⟨e,he,hj⟩
    refine⟨(List.getElem?_eq_some_iff.1 he).1,?_⟩
    have:=dz e (List.mem_of_getElem? he)
    have:=(List.getElem?_eq_some_iff.1 hj).1
    omega
   have afJ:Good w2 (.list sz (some (ad b ob)) cap ed):=by
    by_cases h0:ed=[]
    ·subst h0;exact .nil _ _ _ eC
    ·refine .cons _ _ _ _ _ h0 (by omega) eC dz (fun k' j c hk=>?_) (fun k' j c hk=>Good.fT (gy k' j c ?_))
     ·rw[fQ k' j (N4 hk).1 (N4 hk).2];exact b6.2.1 k' j c hk
     ·obtain⟨e,he,hj⟩:=hk
      exact⟨e,by rw[List.getElem?_append_left (List.getElem?_eq_some_iff.1 he).1];exact he,hj⟩
   have bi:σ.h n≠none:=by rw[hn];simp
   have fA:∀m,σ.h m≠none->(G.g m).nl=false->(G.g m).b≠b:=by
    intro m hm hl
    by_cases bj:m=n
    ·subst bj
     by_cases h0:ed=[]
     ·intro he
      subst he
      rcases gw.nr with hc|⟨hc,_⟩
      ·have:=b7.2.1
       subst hc
       simp at b5
       subst h0
       have:py=[]:=by
        apply List.eq_nil_of_length_eq_zero
        simpa using b5
       exact u9 (by rw[this];rfl)
      ·exact hc h0
     ·exact fun he=>gw.name b (.here _ _ _ _ h0) m hm hl he.symm
    ·exact b7.2.1 m (by rw[bP _ _ _ _ bj];exact hm) hl
   have agd:∀m gr mo ax ak,m≠n->σ.h m=some (.row gr mo ax ak)->¬aP b (G.g m).px:=fun m gr mo ax ak bj hm=>b7.2.2 m gr mo ax ak (by rw[bP _ _ _ _ bj];exact hm)
   have xg:∀k' j' c,At (G.g n).px k' j' c->(k',j')≠(k,off)->¬aK b c:=by
    intro k' j' c bx av
    by_cases h0:ed=[]
    ·intro hbc
     rcases gw.nr with hc|⟨hc,_⟩
     ·subst hc
      subst h0
      have:py=[]:=by
       apply List.eq_nil_of_length_eq_zero
       simpa using b5
      exact u9 (by rw[this];rfl)
     ·exact hc h0
    ·exact gw.rest b (.here _ _ _ _ h0) k' j' c bx av
   obtain⟨l1,l2,l3⟩:=hr.cZ aD
   have Em:Ds w2 (G.g n) (G.g n) true .live rs xs:=by
    refine⟨by simp,.inr rfl,rfl,rfl,rfl,rfl,rfl,hr.er,fun h=>(by rw[aD] at h;cases h),fun _=>⟨⟨l2.1,fun k' j' c bx=>?_,fun k' j' c bx=>?_⟩,l3⟩,hr.mode.2,fun b h=>h,fun _ k' j' pc bx hL=>⟨pc,bx,rfl,hL⟩,fun _ _=>?_⟩
    ·rw[fO (cB _ (fA n bi aD))];exact l2.2.1 _ _ _ bx
    ·by_cases dQ:(k',j')=(k,off)
     ·have h1:k'=k:=congrArg Prod.fst dQ
      have h2:j'=off:=congrArg Prod.snd dQ
      subst h1 h2
      obtain⟨ea,hea,hja⟩:=bx
      obtain⟨eb,IY,I5⟩:=p1
      rw[hea] at IY
      injection IY with IY
      subst IY
      rw[hja] at I5
      injection I5 with I5
      subst I5
      exact afJ
     ·exact(l2.2.2 _ _ _ bx).congr fun x hx o=>fO (cB x (by rintro rfl;exact xg k' j' c bx dQ hx)) o
    ·exact(hr.nr rfl rfl).cz fun x _ arr e he=>ik x arr e he
   obtain⟨rB,K,_⟩:=H.Fq (G':=G) (h':=σ.h) (w':=w2) (S:=fun m=>m=n) (by rw[ky];exact Nat.le_refl _) (fun x hx bG=>by
     by_cases B7:x=b
     ·subst B7
      by_cases h0:ed=[]
      ·rcases gw.nr with hc|⟨hc,_⟩
       ·subst hc
        subst h0
        exact absurd (by rw[List.eq_nil_of_length_eq_zero (by simpa using b5:py.length=0)];rfl) u9
       ·exact absurd h0 hc
      ·exact absurd (.inr ⟨k,off,_,p1,.here _ _ _ _ h0⟩) (bG n rfl)
     ·exact cB x B7) (fun x _=>ik x) rfl (fun m hm=>by
     subst hm
     exact⟨true,.live,rs,xs,xs,hn,hn,Em⟩) (fun m _=>⟨rfl,rfl⟩)
   have r':R B E w0 N σ a w2 G:=r.step rfl (fun _ h=>h) K rB (r.fr.one b8 (fun x _ hx=>cB x hx) (by rw[ky];exact Nat.le_refl _) (ik b) (by rw[<-j3];rfl) (by rw[<-j3];rfl) (by rw[<-j3];rfl))
   refine jk (v:=.slice (some (ad b ob)) (ed.length+py.length) cap) (w':=w2) (OY ?_) ⟨_,rfl,r',.list sz (some (ad b ob)) cap (ed++py),by simp[PC.val],by rw[PC.cN,XD],?_⟩
   ·rw[B6,Yj]
    rw[B6] at aS
    exact aS
   ·have vk:∀x,aK x (.list sz (some (ad b ob)) cap (ed++py))->x=b:=fun x hx=>by
     obtain⟨o',ek⟩:=Yr fH hx
     injection ek with ek
     exact(jF ek).1.symm
    refine⟨.cons _ _ _ _ _ u9 (by rw[EA];exact b5) eC BZ (fun k' j c hk=>?_) (fun k' j c hk=>Good.fT (gy k' j c hk)),Sep.flat fH,?_,fun x hx=>?_,fun x hx m hm hl=>?_,fun x hx m gr mo ax ak bj hm=>?_,fun x hx k' j' c bx av=>?_⟩
    ·rw[<-j3,wv b2 vj]
     have hf:=rE BZ hk
     rw[List.flatten_append] at hf
     have gV:ed.flatten.length=ed.length*sz:=by have:=D3 dz;rwa[List.length_map] at this
     rcases qj hk with⟨tr,bx⟩|⟨tr,bx⟩
     ·rw[if_neg ?_]
      ·exact b6.2.1 k' j c bx
      ·rintro⟨q1,_⟩
       have:=(N4 bx).2
       have:(k'+1)*sz<=ed.length*sz:=Nat.mul_le_mul_right _ tr
       rw[Nat.add_mul] at this
       omega
     ·have zr:ed.length*sz<=k'*sz+j:=Nat.le_trans (Nat.mul_le_mul_right _ tr) (Nat.le_add_right _ _)
      have bS:=(List.getElem?_eq_some_iff.1 hf).1
      rw[List.length_append,gV] at bS
      rw[List.getElem?_append_right (by rw[gV];exact zr),gV] at hf
      rw[if_pos ⟨by omega,by simp only[List.length_map];omega⟩]
      rw[List.getElem?_map,show ob+k'*sz+j - (ob+ed.length*sz)=k'*sz+j - ed.length*sz by omega,hf]
      rfl
    ·obtain⟨ie,q1,q2⟩:=Dg (vs:=py.flatten.map PC.val) (o:=ob+ed.length*sz) b2 vj
     rw[j3] at q1
     exact .inr ⟨u9,b4,b,ob,ie,e',rfl,q1,by rw[q2,b3]⟩
    ·rw[vk x hx]
     exact⟨N9,(ik b).iT ⟨cur,e',b2⟩,b8⟩
    ·rw[vk x hx];exact(fA m hm hl).symm
    ·rw[vk x hx];exact agd m gr mo ax ak bj hm
    ·rw[vk x hx];exact xg k' j' c bx av
  ·
   have hd:∀x:Nat,x<w.heap.size->(w.drew.alloc (.cells arr e)).heap[x]? =w.heap[x]? :=fun x hx=>heap_alloc_old w.drew _ x hx
   have X3:w.heap.size<=(w.drew.alloc (.cells arr e)).heap.size:=by
    have:(w.drew.alloc (.cells arr e)).heap.size=w.drew.heap.size+1:=by simp
    have h2:w.drew.heap.size=w.heap.size:=rfl
    omega
   have r':R B E w0 N σ a (w.drew.alloc (.cells arr e)) G:=r.step rfl (fun _ h=>h) (aR.world (fun x hx=>hd x (H.e7 x hx)) _) (H.grow hd X3) (r.fr.grow hd X3 rfl rfl rfl)
   have ky:arr.size=s8*sz:=by rw[c3,pA];omega
   refine jk (v:=.slice (some (ad w.heap.size 0)) (ed.length+py.length) s8) (w':=w.drew.alloc (.cells arr e)) (OY ?_) ⟨_,rfl,r',.list sz (some (ad w.heap.size 0)) s8 (ed++py),by simp[PC.val],by rw[PC.cN,XD],?_⟩
   ·rw[Yj];exact aS
   ·have vk:∀x,aK x (.list sz (some (ad w.heap.size 0)) s8 (ed++py))->x=w.heap.size:=fun x hx=>by
     obtain⟨o',ek⟩:=Yr fH hx
     injection ek with ek
     exact(jF ek).1.symm
    refine⟨.cons _ _ _ _ _ u9 (by rw[EA];exact c1) eC BZ (fun k' j c hk=>?_) (fun k' j c hk=>Good.fT (gy k' j c hk)),Sep.flat fH,?_,fun x hx=>?_,fun x hx m hm hl=>?_,fun x hx m gr mo ax ak bj hm aE=>?_,fun x hx k' j' c bx av aE=>?_⟩
    ·have hf:=rE BZ hk
     have hc:=c4 _ _ (by rw[<-List.map_append,<-List.flatten_append,List.getElem?_map,hf];rfl)
     simp only[Nat.zero_add]
     unfold ad
     have ED:=World.cell?_alloc_new w.drew arr e (k'*sz+j)
     exact ED.trans hc
    ·exact .inr ⟨u9,c2,w.heap.size,0,arr,e,rfl,heap_alloc_new w.drew _,by rw[ky,Nat.zero_add]⟩
    ·rw[vk x hx]
     refine⟨fun hi=>?_,cP.alloc w.drew arr e,.inl hB⟩
     have:=H.e7 _ hi
     omega
    ·rw[vk x hx]
     have:=(H.own m hm hl).2.2
     omega
    ·rw[vk x hx] at aE
     have:=H.mO hm aE
     omega
    ·rw[vk x hx] at aE
     have:=H.mO hn ⟨k',j',c,bx,aE⟩
     omega
end
end Go.Am
end
