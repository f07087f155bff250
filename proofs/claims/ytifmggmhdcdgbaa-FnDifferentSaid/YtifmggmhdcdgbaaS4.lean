/- S4: operations of the typed evaluator. No condition. -/
import Derived.Test.YtifmggmhdcdgbaaS3
set_option linter.unusedVariables false
namespace Go.Am
theorem ajY {α β:Type} (f:α->β) {l:List α} {i:Nat} {e:α} (h:l[i]? =some e):(l.map f)[i]? =some (f e):=by rw[List.getElem?_map,h];rfl
section
variable {ρ:Type}
def Kq:Bool->Mode
 |true=>.ab
 |false=>.aA
theorem al7 (o:Bool):(if o=true then Mode.ab else .aA)=Kq o:=by cases o<;>rfl
def Ko (σ:ah) (d:Int) (o:Option cB):Option Int:=
 match o with
 |none=>some d
 |some q=>(σ.ev q).cY
theorem Kp {σ:ah} {d l:Int} {o:Option cB} (h:Ko σ d o=some l):(match o.map cB.er with|none=>some d|some q=>(σ.er.ev q).cY)=some l:=by
 cases o with
 |none=>exact h
 |some q=>simp only[Option.map_some,ah.c8];exact SV.yV h
def tL (bE:Bool) (n:Int) (c:SC):List SC:=match bE with
 |true=>[.v (.int .i64) n,.v (.int .i64) (1:Int),c]
 |false=>[.v (.int .i64) (1:Int),.v (.int .i64) n,c]
theorem UD (bE:Bool) (n:Int) (c:SC):(tL bE n c).map SC.er=kM bE n c.er:=by cases bE<;>rfl
def zn:List SC->Option (List TD)
 |[]=>some []
 |.v t x::l=>match t.d7 with
  |true=>match zn l with
   |some ds=>some (⟨t,x⟩::ds)
   |none=>none
  |false=>none
 |_::_=>none
theorem abr:∀{vs:List SC} {ds:List TD},zn vs=some ds->lf (vs.map SC.er)=some (cf ds)
 |[],ds,h=>by simp only[zn] at h;injection h with h;subst h;rfl
 |c::vs,ds,h=>by
  cases c with
  |v t x=>
   simp only[zn] at h
   split at h
   ·rename_i hs
    split at h
    ·rename_i l hl
     injection h with h
     subst h
     simp only[List.map_cons,SC.er,lf,Ty.xl,hs,if_true,abr hl,cf,Option.map_some]
    ·cases h
   ·cases h
  |_=>simp[zn] at h
def UG (us:List Ty) (e:Ty.DL us) (off s i:Nat) (vs:List SC) (k:Ty.DL us->Option ρ):Option ρ:=
 match(Ty.gK us e)[off]? with
 |some ⟨.list ts,ys⟩=>cF ts.length s (cF vs.length s (eH (Ty.fe ts) ((dJ (α:=Ty.DL ts) ys i).aa fun _=>match zn vs with
  |some ds=>match qn ts ds with
   |some el=>match KO us e off ⟨.list ts,dd (α:=Ty.DL ts) ys i el⟩ with
    |some e'=>k e'
    |none=>none
   |none=>none
  |none=>none)))
 |_=>none
theorem anO {us ts:List Ty} {xs:List (Ty.DL us)} {kk off i:Nat} {e e':Ty.DL us} {vs:List SC} {ds:List TD} {el y0:Ty.DL ts} (ys:List (Ty.DL ts)) (he:xs[kk]? =some e) (hd:(Ty.gK us e)[off]? =some ⟨.list ts,ys⟩)
  (iz:vs.length=ts.length) (hs:Ty.fe ts=true) (hy:ys[i]? =some y0) (mL:zn vs=some ds) (mN:qn ts ds=some el) (yL:KO us e off ⟨.list ts,dd ys i el⟩=some e'):
  vg (List.map (Ty.aF us) xs) kk off ts.length i (vs.map SC.er)=some (List.map (Ty.aF us) (dd xs kk e')):=by
 have mO:(Ty.aF us e)[off]? =some (.list ts.length (List.map (Ty.aF ts) ys)):=ML hd
 have hx:(List.map (Ty.aF us) xs)[kk]? =some (Ty.aF us e):=by rw[List.getElem?_map,he];rfl
 have hi:i<(List.map (Ty.aF ts) ys).length:=by rw[List.length_map];exact(List.getElem?_eq_some_iff.1 hy).1
 have Ym:Ty.aF us e'=(Ty.aF us e).set off (.list ts.length (List.map (Ty.aF ts) (dd ys i el))):=abv yL
 unfold vg
 rw[hx,Option.bind_some,mO]
 simp only
 rw[if_pos ⟨trivial,by simpa using iz,hi,zm ts ys hs⟩,abr mL,List.getD_eq_getElem?_getD,hx]
 simp only[Option.map_some,Option.getD_some]
 unfold dd at Ym⊢
 rw[List.map_set,Ym,List.map_set,w4 mN]
theorem aoc {us:List Ty} {xs:List (Ty.DL us)} {kk:Nat} {e:Ty.DL us} {off s i:Nat} {vs:List SC} {k:Ty.DL us->Option ρ} {r:ρ} (he:xs[kk]? =some e) (h:UG us e off s i vs k=some r):
  ∃e',vg (List.map (Ty.aF us) xs) kk off s i (vs.map SC.er)=some (List.map (Ty.aF us) (dd xs kk e'))/\k e'=some r:=by
 unfold UG at h
 split at h
 ·rename_i ts ys hd
  have wj:=(bc h).1;replace h:=(bc h).2
  have uv:=(bc h).1;replace h:=(bc h).2
  have hs:=(bT h).1;replace h:=(bT h).2
  rw[eR] at h
  obtain⟨y0,hy,h⟩:=h
  split at h
  ·rename_i ds mL
   split at h
   ·rename_i el mN
    split at h
    ·rename_i e' yL
     subst wj
     exact⟨e',anO ys he hd uv hs hy mL mN yL,h⟩
    ·cases h
   ·cases h
  ·cases h
 ·cases h
def dN (T:List aI) (d:Option Nat) (op:cC) (σ:ah) (k:ah->Option ρ):Option ρ:=
 match op with
 |.mv x=>k (σ.put d (σ.ev x))
 |.pick c x y=>match σ.ev c with
  |.one (.v .bool b)=>match σ.ev x,σ.ev y with
   |.one (.v t x'),.one (.v u y')=>match Ty.cast u t y' with
    |some z=>k (σ.put d (.one (.v t (aJ b x' z))))
    |none=>aJ b (k (σ.put d (σ.ev x))) (k (σ.put d (σ.ev y)))
   |_,_=>aJ b (k (σ.put d (σ.ev x))) (k (σ.put d (σ.ev y)))
  |_=>none
 |.alloc zs=>match d with
  |some n=>match σ.ins n (.box zs) with
   |some σ1=>k (σ1.put d (.one (.ptr n 0 0 0)))
   |none=>none
  |none=>none
 |.box sz x=>match d,(σ.ev x).cells? with
  |some n,some (_,cs)=>cF cs.length sz (match σ.ins n (.box cs) with
   |some σ1=>k (σ1.put d (.one (.ptr n 0 0 0)))
   |none=>none)
  |_,_=>none
 |.build zs parts=>match Fw σ.ev zs parts with
  |some cs=>k (σ.put d (.agg cs))
  |none=>none
 |.dM ts parts=>match d with
  |some n=>K9 ts σ (parts.map σ.ev) fun es o σ1=>match σ1.ins n (.row true (Kq o) ts es) with
   |some σ2=>k (σ2.put d (.one (.sl n ts.length 0 es.length)))
   |none=>none
  |none=>none
 |.load ag sz x=>match σ.ev x with
  |.one p=>Fk σ.h p sz fun cs=>k (σ.put d (zA ag cs))
  |_=>none
 |.mw ag sz x=>match σ.ev x with
  |.one p=>Uc σ p fun σ1=>Fk σ1.h p sz fun cs=>k (σ1.put d (zA ag cs))
  |_=>none
 |.store sz x v=>match σ.ev x,(σ.ev v).cells? with
  |.one (.ptr n kk az off),some (_,vs)=>cF vs.length sz (match σ.h n with
   |some (.box cs)=>cF kk 0 (eH (Nat.ble (off+sz) cs.length) (k (σ.dc n (.box (bS cs off vs)))))
   |some (.row gr m ts xs)=>cF az ts.length ((dJ xs kk).aa fun e=>UH σ n gr m ts xs kk off e vs k)
   |none=>none)
  |.one (.cD n kk az off s i),some (_,vs)=>cF vs.length sz (match σ.h n with
   |some (.row gr .live us xs)=>cF az us.length ((dJ xs kk).aa fun e=>UG us e off s i vs fun e'=>k (σ.dc n (.row gr .live us (dd xs kk e'))))
   |_=>none)
  |_,_=>none
 |.gv x=>match σ.ev x with
  |.one (.ptr n kk sz off)=>eH (σ.h n).isSome (k (σ.put d (.one (.ptr n kk sz off))))
  |.one (.ca ts x off)=>k (σ.put d (.one (.ca ts x off)))
  |_=>none
 |.bin op x y=>Mi op (σ.ev x) (σ.ev y) fun t z=>k (σ.put d (.one (.v t z)))
 |.nB op x y=>Mh op (σ.ev x) (σ.ev y) fun t z=>k (σ.put d (.one (.v t z)))
 |.un op x=>U2 op (σ.ev x) fun t z=>k (σ.put d (.one (.v t z)))
 |.conv kd x=>match σ.ev x with
  |.one (.v (.int _) n)=>k (σ.put d (.one (.v (.int kd) (ME kd n))))
  |_=>none
 |.nb m ts by_ z l c=>match d,(σ.ev l).cY,(σ.ev c).cY with
  |some n,some a,some b=>(BU a b by_).aa fun len=>match σ.ins n (.row true m ts (oh len z)) with
   |some σ1=>k (σ1.put d (.one (.sl n ts.length 0 len)))
   |none=>none
  |_,_,_=>none
 |.slice sz x lo hi=>
  match σ.ev x,Ko σ 0 lo with
  |.one (.sl n s l0 len),some l=>
   match Ko σ (aO len) hi with
   |some h=>cF s sz (eH (σ.h n).isSome ((vi l h len).aa fun p=>k (σ.put d (.one (.sl n s (aL l0 p.1) p.2)))))
   |none=>none
  |.one (.v (.list ts) xs),some l=>
   match Ko σ (aO (U (α:=Ty.DL ts) xs)) hi with
   |some h=>cF ts.length sz ((vi l h (U (α:=Ty.DL ts) xs)).aa fun p=>k (σ.put d (.one (.v (.list ts) (tI (α:=Ty.DL ts) xs p.1 p.2)))))
   |none=>none
  |_,_=>none
 |.tail sz x lo=>match d,σ.ev x,(σ.ev lo).cY with
  |some n,.one (.sl a s l0 len),some l=>match σ.h a with
   |some (.row true m ts xs)=>cF s ts.length (cF ts.length sz (cF l0 0 ((ae l0 len (U xs)).aa fun _=>(vi l (aO (U xs)) (U xs)).aa fun p=>
    match(σ.del a).ins n (.row true m ts (tI xs p.1 p.2)) with
    |some σ1=>k (σ1.put d (.one (.sl n sz 0 p.2)))
    |none=>none)))
   |_=>none
  |_,_,_=>none
 |.aq off x=>match σ.ev x with
  |.one (.ptr n kk sz o)=>eH (σ.h n).isSome (k (σ.put d (.one (.ptr n kk sz (o+off)))))
  |.one (.ca ts x o)=>k (σ.put d (.one (.ca ts x (o+off))))
  |_=>none
 |.bY sz x i=>match σ.ev x,(σ.ev i).cY with
  |.one (.sl n s lo len),some j=>cF s sz (eH (σ.h n).isSome ((eB j len).aa fun q=>k (σ.put d (.one (.ptr n (aL lo q) s 0)))))
  |.one (.v (.list ts) xs),some j=>cF ts.length sz ((eJ (α:=Ty.DL ts) xs j).aa fun e=>k (σ.put d (.one (.ca ts e 0))))
  |.one (.bx n kk az off s len),some j=>xv σ.h (.bx n kk az off s len) fun t x=>match t,x with
   |.list ts,ys=>cF ts.length sz ((eB j (U (α:=Ty.DL ts) ys)).aa fun q=>k (σ.put d (.one (.cD n kk az off sz q))))
   |_,_=>none
  |_,_=>none
 |.ext i x=>match σ.ev x with
  |.bn xs=>match xs[i]? with
   |some (ag,cs)=>k (σ.put d (zA ag cs))
   |none=>none
  |_=>none
 |.lp ag off sz x=>match σ.ev x with
  |.agg cs=>match sub cs off sz with
   |some l=>k (σ.put d (zA ag l))
   |none=>none
  |_=>none
 |.lO f bE x=>match σ.ev x with
  |.one (.sl n sz lo len)=>eH (σ.h n).isSome (k (σ.put d (.agg (tL bE (aO len) (.sl n sz lo len)))))
  |.one (.v (.list ts) xs)=>k (σ.put d (.agg (tL bE (aO (U (α:=Ty.DL ts) xs)) (.v (.list ts) xs))))
  |.one (.nil ts)=>k (σ.put d (.agg (tL bE (0:Int) (.nil ts))))
  |_=>none
 |.len x=>match σ.ev x with
  |.one (.sl n sz lo len)=>eH (σ.h n).isSome (k (σ.put d (.one (.v (.int .i64) (aO len)))))
  |.one (.v (.list ts) xs)=>k (σ.put d (.one (.v (.int .i64) (aO (U (α:=Ty.DL ts) xs)))))
  |.one (.nil ts)=>k (σ.put d (.one (.v (.int .i64) (0:Int))))
  |.one (.bx n kk az off sz len)=>xv σ.h (.bx n kk az off sz len) fun t x=>match t,x with
   |.list ts,ys=>k (σ.put d (.one (.v (.int .i64) (aO (U (α:=Ty.DL ts) ys)))))
   |_,_=>none
  |_=>none
 |.append fl ts by_ x y=>match d with
  |none=>none
  |some n=>S9 σ ts (σ.ev x) fun xs m σ1=>Ta fl σ1 ts m (σ.ev y) fun ys m2 σ2=>
   (ir (aL (U xs) (U ys)) by_).aa fun _=>match σ2.ins n (.row true m2 ts (bU xs ys)) with
    |some gz=>k (gz.put d (.one (.sl n ts.length 0 (aL (U xs) (U ys)))))
    |none=>none
 |.mm mx x y=>match σ.ev x,σ.ev y with
  |.one (.v (.int kd) a),.one (.v (.int Zp) b)=>match mx with
   |true=>k (σ.put d (.one (.v (.int kd) (Qz a b))))
   |false=>k (σ.put d (.one (.v (.int kd) (tw a b))))
  |_,_=>none
 |.call m f xs=>KN T m d f (xs.map σ.ev) σ k
 |.lS f xs=>T7 T d f (xs.map σ.ev) σ k
 |.copy x y=>match σ.ev x,σ.ev y with
  |.one (.sl n s lo len),.one c=>match σ.h n with
   |some (.row gr m ts xs)=>cF s 1 (cF ts.length 1 (eH (m.own&&Ty.fe ts) (xv σ.h c fun u ys=>match u,ys with
    |.list us,ys=>match Ty.cast (.list us) (.list ts) ys with
     |some zs=>(HQ (α:=Ty.DL ts) xs lo len (List.take (α:=Ty.DL ts) len zs)).aa fun av=>k ((σ.dc n (.row gr m ts av)).put d (.one (.v (.int .i64) (aO (Nat.min (U (α:=Ty.DL ts) zs) len)))))
     |none=>none
    |_,_=>none)))
   |_=>none
  |_,_=>none
 |.kt t z x=>match σ.ev x with
  |.one (.sl n s lo len)=>match σ.h n with
   |some (.row gr m ts xs)=>cF s 1 (eH (m.own&&t.d7) (match qn ts [⟨t,z⟩] with
    |some e=>(HQ (α:=Ty.DL ts) xs lo len (oh len e)).aa fun av=>k ((σ.dc n (.row gr m ts av)).put d (.bn []))
    |none=>none))
   |_=>none
  |_=>none
 |.oV f xs=>match zr (xs.map σ.ev) with
  |some cs=>k (σ.put d (.one (.fn f cs)))
  |none=>none
 |.lT m x xs=>match σ.ev x with
  |.one (.fn f bW)=>KN T m d f (xs.map σ.ev++bW.map .one) σ k
  |_=>none
 |.gI m f xs=>T8 T m d f (xs.map σ.ev) σ k
 |.dC f xs=>T6 T d f (xs.map σ.ev) σ k
theorem Dm {σ:ah} {n:Nat} {b:SB} (h:σ.h n=some b):σ.er.h n=some b.er:=by simp[ah.er,cM,h]
theorem Ao {σ:ah} {n:Nat} (h:(σ.h n).isSome=true):(σ.er.h n).isSome=true:=by
 simp only[ah.er,WL,h]
theorem U7 (t:Ty) (x:t.D):(SV.one (.v t x)).er=.one (.c (t.er x)):=rfl
theorem Wo {ts:List Ty} {xs av ys:List (Ty.DL ts)} {lo len:Nat} (h:HQ xs lo len ys=some av):lo+len<=xs.length/\List.map (Ty.aF ts) av=bS (List.map (Ty.aF ts) xs) lo (List.map (Ty.aF ts) ys):=by
 unfold HQ at h
 split at h
 ·rename_i hc
  injection h with h
  subst h
  exact⟨hc,Ct (Ty.aF ts) xs ys lo⟩
 ·cases h
theorem Ty.adv {t u:Ty} {x:t.D} {y:u.D} (h:Ty.cast t u x=some y):t.er x=u.er y:=by
 unfold Ty.cast at h
 split at h
 ·rename_i he
  have:=Ty.beq_eq he
  subst this
  injection h with h
  rw[<-h]
 ·cases h
theorem abw {T:List aI} {d:Option Nat} {op:cC} {σ:ah} {k:ah->Option ρ} {r:ρ} (h:dN T d op σ k=some r):
  ∃σ1:ah,aG (de T) d op.er σ.er=some σ1.er/\k σ1=some r:=by
 cases op with
 |mv x=>exact⟨_,by simp only[cC.er,aG,ah.dh,ah.c8],h⟩
 |pick c x y=>
  simp only[dN] at h
  split at h
  ·rename_i b hc
   have cj:σ.er.ev c.er=.one (.c (.bool b)):=by rw[ah.c8,hc];rfl
   have cr:∀σ1:ah,σ1.er=σ.er.put d (cond b (σ.ev x).er (σ.ev y).er)->aG (de T) d (cC.er (.pick c x y)) σ.er=some σ1.er:=by
    intro σ1 e
    simp only[cC.er,aG,cj,ah.c8,e]
    cases b<;>rfl
   have gen:aJ b (k (σ.put d (σ.ev x))) (k (σ.put d (σ.ev y)))=some r->∃σ1:ah,aG (de T) d (cC.er (.pick c x y)) σ.er=some σ1.er/\k σ1=some r:=by
    intro h
    cases hb:(b:Bool) with
    |true=>rw[hb] at h;exact⟨_,cr _ (by rw[ah.dh,hb];rfl),h⟩
    |false=>rw[hb] at h;exact⟨_,cr _ (by rw[ah.dh,hb];rfl),h⟩
   split at h
   ·rename_i t x' u y' ex ey
    split at h
    ·rename_i z hz
     refine⟨_,cr _ ?_,h⟩
     rw[ah.dh,ex,ey,U7,U7,U7,Ty.VY hz]
     cases (b:Bool)<;>rfl
    ·exact gen h
   ·exact gen h
  ·cases h
 |alloc zs=>
  simp only[dN] at h
  split at h
  ·rename_i n
   split at h
   ·rename_i σ1 e
    have:=ah.sn e
    exact⟨_,by simp only[cC.er,aG];rw[show ar.box (zs.map SC.er)=(SB.box zs).er from rfl,this,ah.dh];rfl,h⟩
   ·cases h
  ·cases h
 |box sz x=>
  simp only[dN] at h
  split at h
  ·rename_i n b cs hc
   have bo:=(bc h).1;replace h:=(bc h).2;subst bo
   split at h
   ·rename_i σ1 e
    have:=ah.sn e
    refine⟨_,?_,h⟩
    simp only[cC.er,aG,ah.c8,SV.lU hc,List.length_map,if_true]
    rw[show ar.box (cs.map SC.er)=(SB.box cs).er from rfl,this,ah.dh];rfl
   ·cases h
  ·cases h
 |build zs parts=>
  simp only[dN] at h
  split at h
  ·rename_i cs hc
   exact⟨_,by simp only[cC.er,aG,ab5 hc,ah.dh];rfl,h⟩
  ·cases h
 |dM ts parts=>
  simp only[dN] at h
  split at h
  ·rename_i n
   obtain⟨es,o,σ1,h1,h2⟩:=ab6 h
   split at h2
   ·rename_i σ2 e
    have i:=ah.sn e
    refine⟨_,?_,h2⟩
    simp only[cC.er,aG,yj,h1,ah.dh]
    have:(SB.row true (Kq o) ts es).er=ar.row true (Kq o) ts.length (List.map (Ty.aF ts) es):=rfl
    rw[al7,<-this,i,List.length_map]
    rfl
   ·cases h2
  ·cases h
 |load ag sz x=>
  simp only[dN] at h
  split at h
  ·rename_i p hp
   obtain⟨l,h1,h2⟩:=Uj h
   have bd:σ.er.ev x.er=.one p.er:=by rw[ah.c8,hp];rfl
   have iT:loadAt σ.er.h p.er sz=some (l.map SC.er):=h1
   exact⟨_,by simp only[cC.er,aG,bd,iT,ah.dh,CC],h2⟩
  ·cases h
 |mw ag sz x=>
  simp only[dN] at h
  split at h
  ·rename_i p hp
   obtain⟨σ1,h0,h⟩:=anP h
   obtain⟨l,h1,h2⟩:=Uj h
   have bd:σ.er.ev x.er=.one p.er:=by rw[ah.c8,hp];rfl
   have iT:loadAt σ1.er.h p.er sz=some (l.map SC.er):=h1
   exact⟨_,by simp only[cC.er,aG,bd,h0,iT,ah.dh,CC],h2⟩
  ·cases h
 |store sz x v=>
  simp only[dN] at h
  split at h
  ·rename_i n kk az off b vs hp hc
   have bo:=(bc h).1;replace h:=(bc h).2;subst bo
   have bd:σ.er.ev x.er=.one (.ptr n kk az off):=by rw[ah.c8,hp];rfl
   have cj:(σ.er.ev v.er).cells?=some (b,vs.map SC.er):=by rw[ah.c8];exact SV.lU hc
   split at h
   ·rename_i cs hn
    have bo:=(bc h).1;replace h:=(bc h).2;subst bo
    have hb:=(bT h).1;replace h:=(bT h).2
    have eS:=Nat.le_of_ble_eq_true hb
    refine⟨_,?_,h⟩
    simp only[cC.er,aG,bd,cj,List.length_map,if_true,Dm hn,SB.er,eS,and_self,ah.oJ,<-Ct]
   ·rename_i gr m ts xs hn
    have bo:=(bc h).1;replace h:=(bc h).2;subst bo
    rw[eR] at h
    obtain⟨e,he,h⟩:=h
    replace he:xs[kk]? =some e:=he
    obtain⟨σ1,s1,s2⟩:=aod h
    refine⟨σ1,?_,s2⟩
    have mO:(List.map (Ty.aF ts) xs)[kk]? =some (Ty.aF ts e):=by rw[List.getElem?_map,he];rfl
    simp only[cC.er,aG,bd,cj,List.length_map,if_true,Dm hn,SB.er,mO,s1]
   ·cases h
  ·rename_i n kk az off s i b vs hp hc
   have bo:=(bc h).1;replace h:=(bc h).2;subst bo
   have bd:σ.er.ev x.er=.one (.cD n kk az off s i):=by rw[ah.c8,hp];rfl
   have cj:(σ.er.ev v.er).cells?=some (b,vs.map SC.er):=by rw[ah.c8];exact SV.lU hc
   split at h
   ·rename_i gr us xs hn
    have bo:=(bc h).1;replace h:=(bc h).2;subst bo
    rw[eR] at h
    obtain⟨e,he,h⟩:=h
    replace he:xs[kk]? =some e:=he
    obtain⟨e',s1,s2⟩:=aoc he h
    refine⟨_,?_,s2⟩
    simp only[cC.er,aG,bd,cj,List.length_map,if_true,Dm hn,SB.er,s1,ah.oJ]
   ·cases h
  ·cases h
 |gv x=>
  simp only[dN] at h
  split at h
  ·rename_i n kk sz off hp
   have hb:=(bT h).1;replace h:=(bT h).2
   have bd:σ.er.ev x.er=.one (.ptr n kk sz off):=by rw[ah.c8,hp];rfl
   exact⟨_,by simp only[cC.er,aG,bd,Ao hb,if_true,ah.dh];rfl,h⟩
  ·rename_i ts y off hp
   have bd:σ.er.ev x.er=.one (.ca (Ty.aF ts y) off):=by rw[ah.c8,hp];rfl
   exact⟨_,by simp only[cC.er,aG,bd,ah.dh];rfl,h⟩
  ·cases h
 |bin op x y=>
  simp only[dN] at h
  obtain⟨t,z,h1,h2⟩:=ado h
  exact⟨_,by simp only[cC.er,aG,ah.c8,h1,ah.dh];rfl,h2⟩
 |nB op x y=>
  simp only[dN] at h
  obtain⟨t,z,h1,h2⟩:=adm h
  exact⟨_,by simp only[cC.er,aG,ah.c8,h1,ah.dh];rfl,h2⟩
 |un op x=>
  simp only[dN] at h
  obtain⟨t,z,h1,h2⟩:=aoB h
  exact⟨_,by simp only[cC.er,aG,ah.c8,h1,ah.dh];rfl,h2⟩
 |conv kd x=>
  simp only[dN] at h
  split at h
  ·rename_i k' n hp
   have bd:σ.er.ev x.er=.one (.c (.int k' n)):=by rw[ah.c8,hp];rfl
   exact⟨_,by simp only[cC.er,aG,bd,ah.dh];rfl,h⟩
  ·cases h
 |nb m ts by_ z l c=>
  simp only[dN] at h
  split at h
  ·rename_i n a b ha hb
   rw[eR] at h
   obtain⟨len,hm,h⟩:=h
   unfold BU at hm
   split at hm
   ·rename_i cu
    injection hm with hm
    subst hm
    split at h
    ·rename_i σ1 e
     have i:=ah.sn e
     have rb:(σ.er.ev l.er).cY=some a:=by rw[ah.c8];exact SV.yV ha
     have aT:(σ.er.ev c.er).cY=some b:=by rw[ah.c8];exact SV.yV hb
     refine⟨_,?_,h⟩
     have hz:(Ty.aF ts z).length=ts.length:=Ty.Dk ts z
     have jK:(SB.row true m ts (oh a.toNat z)).er=ar.row true m ts.length (List.replicate a.toNat (Ty.aF ts z)):=by simp[SB.er,oh,List.map_replicate]
     have N4:a<=b/\0<=a/\b.toNat*by_<=dK/\(Ty.aF ts z).length=ts.length:=⟨cu.1,cu.2.1,cu.2.2,hz⟩
     simp only[cC.er,aG,rb,aT,if_pos N4,<-jK,i,ah.dh]
     rfl
    ·cases h
   ·cases hm
  ·cases h
 |slice sz x lo hi=>
  simp only[dN] at h
  split at h
  ·rename_i n s l0 len l hp el
   have bd:σ.er.ev x.er=.one (.sl n s l0 len):=by rw[ah.c8,hp];rfl
   split at h
   ·rename_i hh eh
    have bo:=(bc h).1;replace h:=(bc h).2;subst bo
    have hb:=(bT h).1;replace h:=(bT h).2
    rw[eR] at h
    obtain⟨p,hs,h⟩:=h
    unfold vi at hs
    split at hs
    ·rename_i cu
     injection hs with hs
     subst hs
     refine⟨_,?_,h⟩
     have uq:s=s/\0<=l/\l<=hh/\hh<=len/\(σ.er.h n).isSome=true:=⟨rfl,cu.1,cu.2.1,cu.2.2,Ao hb⟩
     have e1:=Kp el
     have e2:=Kp eh
     rw[ah.dh]
     cases lo with
     |none=>
      simp only[Option.map_none,Option.some.injEq] at e1
      subst e1
      cases hi with
      |none=>
       simp only[Option.map_none,Option.some.injEq] at e2
       subst e2
       simp only[cC.er,aG,bd,Option.map_none]
       exact if_pos ⟨trivial,uq.2⟩
      |some q=>
       simp only[Option.map_some] at e2
       simp only[cC.er,aG,bd,Option.map_none,Option.map_some,e2]
       exact if_pos ⟨trivial,uq.2⟩
     |some q0=>
      simp only[Option.map_some] at e1
      cases hi with
      |none=>
       simp only[Option.map_none,Option.some.injEq] at e2
       subst e2
       simp only[cC.er,aG,bd,Option.map_none,Option.map_some,e1]
       exact if_pos ⟨trivial,uq.2⟩
      |some q=>
       simp only[Option.map_some] at e2
       simp only[cC.er,aG,bd,Option.map_some,e1,e2]
       exact if_pos ⟨trivial,uq.2⟩
    ·cases hs
   ·cases h
  ·rename_i ts xs l hp el
   have bd:σ.er.ev x.er=.one (.c (.list ts.length (List.map (Ty.aF ts) xs))):=by rw[ah.c8,hp];rfl
   split at h
   ·rename_i hh eh
    have bo:=(bc h).1;replace h:=(bc h).2;subst bo
    rw[eR] at h
    obtain⟨p,hs,h⟩:=h
    unfold vi at hs
    split at hs
    ·rename_i cu
     injection hs with hs
     subst hs
     refine⟨_,?_,h⟩
     have uq:ts.length=ts.length/\0<=l/\l<=hh/\hh<=(List.map (Ty.aF ts) xs).length:=⟨rfl,cu.1,cu.2.1,Int.le_trans cu.2.2 (Int.le_of_eq (congrArg _ (List.length_map (Ty.aF ts)).symm))⟩
     have e1:=Kp el
     have e2:(match hi.map cB.er with|none=>some (((List.map (Ty.aF ts) xs).length:Nat):Int)|some q=>(σ.er.ev q).cY)=some hh:=by rw[show(List.map (Ty.aF ts) xs).length=List.length (α:=Ty.DL ts) xs from List.length_map (Ty.aF ts)];exact Kp eh
     rw[ah.dh]
     have OD:List.map (Ty.aF ts) (List.take (hh - l).toNat (List.drop (α:=Ty.DL ts) l.toNat xs))=((List.map (Ty.aF ts) xs).drop l.toNat).take (hh - l).toNat:=by
      rw[List.map_take]
      exact congrArg (List.take (hh - l).toNat) List.map_drop
     refine Eq.trans ?_ (congrArg (fun q=>some (σ.er.put d (aj.one (.c (.list ts.length q))))) OD.symm)
     cases lo with
     |none=>
      simp only[Option.map_none,Option.some.injEq] at e1
      subst e1
      cases hi with
      |none=>
       simp only[Option.map_none,Option.some.injEq] at e2
       subst e2
       simp only[cC.er,aG,bd,Option.map_none]
       exact if_pos ⟨trivial,uq.2⟩
      |some q=>
       simp only[Option.map_some] at e2
       simp only[cC.er,aG,bd,Option.map_none,Option.map_some,e2]
       exact if_pos ⟨trivial,uq.2⟩
     |some q0=>
      simp only[Option.map_some] at e1
      cases hi with
      |none=>
       simp only[Option.map_none,Option.some.injEq] at e2
       subst e2
       simp only[cC.er,aG,bd,Option.map_none,Option.map_some,e1]
       exact if_pos ⟨trivial,uq.2⟩
      |some q=>
       simp only[Option.map_some] at e2
       simp only[cC.er,aG,bd,Option.map_some,e1,e2]
       exact if_pos ⟨trivial,uq.2⟩
    ·cases hs
   ·cases h
  ·cases h
 |tail sz x lo=>
  simp only[dN] at h
  split at h
  ·rename_i n a0 s l0 len l hp hl
   have bd:σ.er.ev x.er=.one (.sl a0 s l0 len):=by rw[ah.c8,hp];rfl
   have dt:(σ.er.ev lo.er).cY=some l:=by rw[ah.c8];exact SV.yV hl
   split at h
   ·rename_i m ts xs hn
    have bo:=(bc h).1;replace h:=(bc h).2;subst bo
    have bo:=(bc h).1;replace h:=(bc h).2;subst bo
    have bo:=(bc h).1;replace h:=(bc h).2;subst bo
    rw[eR] at h
    obtain⟨_,hf,h⟩:=h
    obtain⟨_,hlen⟩:=NR hf
    rw[eR] at h
    obtain⟨p,hs,h⟩:=h
    unfold vi at hs
    split at hs
    ·rename_i cu
     injection hs with hs
     subst hs
     simp only at h
     split at h
     ·rename_i σ1 e1
      refine⟨_,?_,h⟩
      have af8:len=xs.length:=hlen
      have XP:0<=l/\l<=(xs.length:Int):=⟨cu.1,cu.2.1⟩
      have bm:σ.er.h a0=some (.row true m ts.length (List.map (Ty.aF ts) xs)):=by simp[ah.er,cM,hn,SB.er]
      have i1:=ah.sn e1
      have e2:(aO (U xs) - l).toNat=xs.length - l.toNat:=by simp only[aO,U];omega
      have e3:tI xs l.toNat (aO (U xs) - l).toNat=xs.drop l.toNat:=by rw[e2];unfold tI;rw[List.take_of_length_le (by simp)]
      rw[e3] at i1
      simp only[SB.er,ah.H8,List.map_drop] at i1
      simp only[cC.er,aG,bd,dt,bm,List.length_map,af8,XP.1,XP.2,and_self,if_true,i1,ah.dh,SV.er,SC.er,e2]
     ·cases h
    ·cases hs
   ·cases h
  ·cases h
 |aq off x=>
  simp only[dN] at h
  split at h
  ·rename_i n kk sz o hp
   have hb:=(bT h).1;replace h:=(bT h).2
   have bd:σ.er.ev x.er=.one (.ptr n kk sz o):=by rw[ah.c8,hp];rfl
   exact⟨_,by simp only[cC.er,aG,bd,Ao hb,if_true,ah.dh];rfl,h⟩
  ·rename_i ts y o hp
   have bd:σ.er.ev x.er=.one (.ca (Ty.aF ts y) o):=by rw[ah.c8,hp];rfl
   exact⟨_,by simp only[cC.er,aG,bd,ah.dh];rfl,h⟩
  ·cases h
 |bY sz x i=>
  simp only[dN] at h
  split at h
  ·rename_i n s lo len j hp hi
   have bo:=(bc h).1;replace h:=(bc h).2;subst bo
   have hb:=(bT h).1;replace h:=(bT h).2
   rw[eR] at h
   obtain⟨q,hq,h⟩:=h
   unfold eB at hq
   split at hq
   ·rename_i cu
    injection hq with hq
    subst hq
    have bd:σ.er.ev x.er=.one (.sl n s lo len):=by rw[ah.c8,hp];rfl
    have hi':(σ.er.ev i.er).cY=some j:=by rw[ah.c8];exact SV.yV hi
    refine⟨_,?_,h⟩
    have N4:s=s/\0<=j/\j<len/\(σ.er.h n).isSome=true:=⟨rfl,cu.1,cu.2,Ao hb⟩
    simp only[cC.er,aG,bd,hi',ah.dh]
    exact if_pos ⟨trivial,N4.2⟩
   ·cases hq
  ·rename_i ts xs j hp hi
   have bo:=(bc h).1;replace h:=(bc h).2;subst bo
   rw[eR] at h
   obtain⟨e,he,h⟩:=h
   unfold eJ at he
   split at he
   ·rename_i cu
    have bd:σ.er.ev x.er=.one (.c (.list ts.length (List.map (Ty.aF ts) xs))):=by rw[ah.c8,hp];rfl
    have hi':(σ.er.ev i.er).cY=some j:=by rw[ah.c8];exact SV.yV hi
    have mO:(List.map (Ty.aF ts) xs)[j.toNat]? =some (Ty.aF ts e):=ajY (Ty.aF ts) he
    refine⟨_,?_,h⟩
    simp only[cC.er,aG,bd,hi',cu,and_self,if_true,mO,ah.dh]
    rfl
   ·cases he
  ·rename_i n kk az off s len j hp hi
   obtain⟨t,y,h1,h2⟩:=CB h
   have bd:σ.er.ev x.er=.one (.bx n kk az off s len):=by rw[ah.c8,hp];rfl
   have hi':(σ.er.ev i.er).cY=some j:=by rw[ah.c8];exact SV.yV hi
   have iT:bR σ.er.h (.bx n kk az off s len)=some (t.er y):=h1
   split at h2
   ·rename_i ts ys
    have bo:=(bc h2).1;replace h2:=(bc h2).2;subst bo
    rw[eR] at h2
    obtain⟨q,hq,h2⟩:=h2
    unfold eB at hq
    split at hq
    ·rename_i cu
     injection hq with hq
     subst hq
     refine⟨_,?_,h2⟩
     simp only[cC.er,aG,bd,hi',iT,Ty.er,ah.dh]
     exact if_pos ⟨trivial,cu.1,by rw[show(List.map (Ty.aF ts) ys).length=U (α:=Ty.DL ts) ys from List.length_map (Ty.aF ts)];exact cu.2⟩
    ·cases hq
   ·cases h2
  ·cases h
 |ext i x=>
  simp only[dN] at h
  split at h
  ·rename_i xs hp
   split at h
   ·rename_i ag cs hg
    have bd:σ.er.ev x.er=.bn (xs.map fun x=>(x.1,x.2.map SC.er)):=by rw[ah.c8,hp];rfl
    refine⟨_,?_,h⟩
    simp only[cC.er,aG,bd,List.getElem?_map,hg,Option.map_some,ah.dh,CC]
   ·cases h
  ·cases h
 |lp ag off sz x=>
  simp only[dN] at h
  split at h
  ·rename_i cs hp
   have bd:σ.er.ev x.er=.agg (cs.map SC.er):=by rw[ah.c8,hp];rfl
   split at h
   ·rename_i l hl
    exact⟨_,by simp only[cC.er,aG,bd,tM,hl,Option.map_some,ah.dh,CC],h⟩
   ·cases h
  ·cases h
 |lO f bE x=>
  simp only[dN] at h
  split at h
  ·rename_i n sz lo len hp
   have hb:=(bT h).1;replace h:=(bT h).2
   have bd:σ.er.ev x.er=.one (.sl n sz lo len):=by rw[ah.c8,hp];rfl
   refine⟨_,?_,h⟩
   simp only[cC.er,aG,bd,Ao hb,if_true,ah.dh]
   rw[show(SV.agg (tL bE (aO len) (.sl n sz lo len))).er=.agg ((tL bE (aO len) (.sl n sz lo len)).map SC.er) from rfl,UD]
   rfl
  ·rename_i ts xs hp
   have bd:σ.er.ev x.er=.one (.c (.list ts.length (List.map (α:=Ty.DL ts) (Ty.aF ts) xs))):=by rw[ah.c8,hp];rfl
   refine⟨_,?_,h⟩
   simp only[cC.er,aG,bd,ah.dh]
   rw[show(SV.agg (tL bE (aO (U (α:=Ty.DL ts) xs)) (.v (.list ts) xs))).er=.agg ((tL bE (aO (U (α:=Ty.DL ts) xs)) (.v (.list ts) xs)).map SC.er) from rfl,UD]
   congr 3
   congr 1
   exact congrArg Int.ofNat (List.length_map (as:=(xs:List (Ty.DL ts))) (Ty.aF ts))
  ·rename_i ts hp
   have bd:σ.er.ev x.er=.one (.nil ts.length):=by rw[ah.c8,hp];rfl
   refine⟨_,?_,h⟩
   simp only[cC.er,aG,bd,ah.dh]
   rw[show(SV.agg (tL bE (0:Int) (.nil ts))).er=.agg ((tL bE (0:Int) (.nil ts)).map SC.er) from rfl,UD]
   rfl
  ·cases h
 |len x=>
  simp only[dN] at h
  split at h
  ·rename_i n sz lo len hp
   have hb:=(bT h).1;replace h:=(bT h).2
   have bd:σ.er.ev x.er=.one (.sl n sz lo len):=by rw[ah.c8,hp];rfl
   exact⟨_,by simp only[cC.er,aG,bd,Ao hb,if_true,ah.dh];rfl,h⟩
  ·rename_i ts xs hp
   have bd:σ.er.ev x.er=.one (.c (.list ts.length (List.map (Ty.aF ts) xs))):=by rw[ah.c8,hp];rfl
   exact⟨_,by simp only[cC.er,aG,bd,ah.dh];exact congrArg (fun q:Nat=>some (σ.er.put d (aj.one (.c (.int .i64 (q:Int)))))) (List.length_map (Ty.aF ts)),h⟩
  ·rename_i ts hp
   have bd:σ.er.ev x.er=.one (.nil ts.length):=by rw[ah.c8,hp];rfl
   exact⟨_,by simp only[cC.er,aG,bd,ah.dh];rfl,h⟩
  ·rename_i n kk az off sz len hp
   obtain⟨t,y,h1,h2⟩:=CB h
   have bd:σ.er.ev x.er=.one (.bx n kk az off sz len):=by rw[ah.c8,hp];rfl
   have iT:bR σ.er.h (.bx n kk az off sz len)=some (t.er y):=h1
   split at h2
   ·rename_i ts ys
    exact⟨_,by simp only[cC.er,aG,bd,iT,Ty.er,ah.dh];exact congrArg (fun q:Nat=>some (σ.er.put d (aj.one (.c (.int .i64 (q:Int)))))) (List.length_map (Ty.aF ts)),h2⟩
   ·cases h2
  ·cases h
 |append fl ts by_ x y=>
  simp only[dN] at h
  split at h
  ·cases h
  ·rename_i n
   obtain⟨xs,m,σ1,h1,h2⟩:=anC h
   obtain⟨ys,m2,σ2,h3,h4⟩:=anD h2
   rw[eR] at h4
   obtain⟨_,hf,h4⟩:=h4
   unfold ir at hf
   split at hf
   ·rename_i hb
    split at h4
    ·rename_i gz e
     have i:=ah.sn e
     refine⟨_,?_,h4⟩
     replace hb:(xs.length+ys.length)*by_<=dK:=hb
     have jK:(SB.row true m2 ts (bU xs ys)).er=ar.row true m2 ts.length (List.map (Ty.aF ts) xs++List.map (Ty.aF ts) ys):=by simp[SB.er,bU]
     simp only[cC.er,aG,ah.c8,h1,h3,List.length_map,hb,if_true,<-jK,i,ah.dh]
     rfl
    ·cases h4
   ·cases hf
 |mm mx x y=>
  simp only[dN] at h
  split at h
  ·rename_i kd a Zp b ex ey
   have WO:σ.er.ev x.er=.one (.c (.int kd a)):=by rw[ah.c8,ex];rfl
   have W5:σ.er.ev y.er=.one (.c (.int Zp b)):=by rw[ah.c8,ey];rfl
   split at h
   ·refine⟨_,?_,h⟩
    rw[ah.dh]
    simp only[cC.er,aG,WO,W5,if_true]
    by_cases eK:LT.lt (α:=Int) a b
    ·exact(if_pos eK).trans (congrArg (fun q:Int=>some (σ.er.put d (aj.one (.c (.int kd q))))) (if_pos eK:Qz a b=b).symm)
    ·exact(if_neg eK).trans (congrArg (fun q:Int=>some (σ.er.put d (aj.one (.c (.int kd q))))) (if_neg eK:Qz a b=a).symm)
   ·refine⟨_,?_,h⟩
    rw[ah.dh]
    simp only[cC.er,aG,WO,W5,Bool.false_eq_true,if_false]
    by_cases eK:LT.lt (α:=Int) b a
    ·exact(if_pos eK).trans (congrArg (fun q:Int=>some (σ.er.put d (aj.one (.c (.int kd q))))) (if_pos eK:tw a b=b).symm)
    ·exact(if_neg eK).trans (congrArg (fun q:Int=>some (σ.er.put d (aj.one (.c (.int kd q))))) (if_neg eK:tw a b=a).symm)
  ·cases h
 |call m f xs=>
  simp only[dN] at h
  obtain⟨σ1,h1,h2⟩:=abt h
  exact⟨σ1,by simp only[cC.er,aG,yj];exact h1,h2⟩
 |copy x y=>
  simp only[dN] at h
  split at h
  ·rename_i n s lo len c hp hq
   split at h
   ·rename_i gr m ts xs hn
    have bo:=(bc h).1;replace h:=(bc h).2;subst bo
    have ht:=(bc h).1;replace h:=(bc h).2
    have hb:=(bT h).1;replace h:=(bT h).2
    simp only[Bool.and_eq_true] at hb
    obtain⟨u,ys,h1,h2⟩:=CB h
    split at h2
    ·rename_i us ys
     split at h2
     ·rename_i zs hz
      rw[eR] at h2
      obtain⟨av,hc,h2⟩:=h2
      refine⟨_,?_,h2⟩
      have bd:σ.er.ev x.er=.one (.sl n 1 lo len):=by rw[ah.c8,hp];rfl
      have dQ:σ.er.ev y.er=.one c.er:=by rw[ah.c8,hq];rfl
      have ru:Ty.er (.list us) ys=Ty.er (.list ts) zs:=by
       have:=Ty.adv hz
       exact this
      have iT:bR σ.er.h c.er=some (.list ts.length (List.map (Ty.aF ts) zs)):=by
       have:bR σ.er.h c.er=some (Ty.er (.list us) ys):=h1
       rw[this,ru];rfl
      obtain⟨c1,c2⟩:=Wo hc
      have gP:m≠ .aA:=by rintro rfl;exact absurd hb.1 (by simp[Mode.own])
      simp only[cC.er,aG,bd,dQ,Dm hn,SB.er,iT]
      rw[if_pos ⟨trivial,trivial,ht,ht,gP,zm ts xs hb.2,zm ts zs hb.2,by rw[List.length_map];exact c1⟩]
      rw[ah.dh,ah.oJ]
      simp only[SB.er,c2,ht]
      rw[show List.map (Ty.aF ts) (List.take (α:=Ty.DL ts) len zs)=List.take len (List.map (Ty.aF ts) zs) from List.map_take,show(List.map (Ty.aF ts) zs).length=U (α:=Ty.DL ts) zs from List.length_map _]
      rfl
     ·cases h2
    ·cases h2
   ·cases h
  ·cases h
 |kt t z x=>
  simp only[dN] at h
  split at h
  ·rename_i n s lo len hp
   split at h
   ·rename_i gr m ts xs hn
    have bo:=(bc h).1;replace h:=(bc h).2;subst bo
    have hb:=(bT h).1;replace h:=(bT h).2
    simp only[Bool.and_eq_true] at hb
    split at h
    ·rename_i e he
     rw[eR] at h
     obtain⟨av,hc,h⟩:=h
     refine⟨_,?_,h⟩
     have bd:σ.er.ev x.er=.one (.sl n 1 lo len):=by rw[ah.c8,hp];rfl
     have mN:Ty.aF ts e=[t.er z]:=w4 he
     have hlen:ts.length=1:=by
      have:=congrArg List.length mN
      rw[Ty.Dk] at this
      exact this
     have sF:Ty.fe ts=true:=by
      have:=Ty.KL ts e
      rw[mN] at this
      simp only[Am.fe,List.all_cons,List.all_nil,Bool.and_true,Ty.xl,hb.2] at this
      exact this.symm
     obtain⟨c1,c2⟩:=Wo hc
     have gP:m≠ .aA:=by rintro rfl;exact absurd hb.1 (by simp[Mode.own])
     simp only[cC.er,aG,bd,Dm hn,SB.er]
     rw[if_pos ⟨trivial,hlen,by rw[Ty.xl];exact hb.2,gP,zm ts xs sF,by rw[List.length_map];exact c1⟩]
     rw[ah.dh,ah.oJ]
     simp only[SB.er,c2,hlen,oh,List.map_replicate,mN]
     rfl
    ·cases h
   ·cases h
  ·cases h
 |lS f xs=>
  simp only[dN] at h
  obtain⟨v,h1,h2⟩:=anJ h
  refine⟨_,?_,h2⟩
  simp only[cC.er,aG,yj]
  rw[h1]
  simp only[ah.dh]
 |oV f xs=>
  simp only[dN] at h
  split at h
  ·rename_i cs hc
   obtain⟨h1,h2⟩:=abJ hc
   refine⟨_,?_,h⟩
   simp only[cC.er,aG,yj]
   split
   ·rename_i cs' e
    have e2:some cs'=some (cs.map SC.er):=e.symm.trans h1
    injection e2 with e2
    subst e2
    rw[if_pos h2,ah.dh]
    simp only[SV.er,SC.er,SC.Dn]
   ·rename_i e
    have e2:none=some (cs.map SC.er):=e.symm.trans h1
    cases e2
  ·cases h
 |gI m f xs=>
  simp only[dN] at h
  obtain⟨σ1,h1,h2⟩:=anK h
  exact⟨σ1,by simp only[cC.er,aG,yj];exact h1,h2⟩
 |dC f xs=>
  simp only[dN] at h
  obtain⟨σ1,h1,h2⟩:=anI h
  exact⟨σ1,by simp only[cC.er,aG,yj];exact h1,h2⟩
 |lT m x xs=>
  simp only[dN] at h
  split at h
  ·rename_i f bW hp
   have bd:σ.er.ev x.er=.one (.fn f (bW.map SC.er)):=by rw[ah.c8,hp];simp only[SV.er,SC.er,SC.Dn]
   obtain⟨σ1,h1,h2⟩:=abt h
   refine⟨σ1,?_,h2⟩
   simp only[cC.er,aG,bd,yj]
   rw[List.map_append] at h1
   simp only[List.map_map] at h1⊢
   exact h1
  ·cases h
structure eP where
 dst:Option Nat
 op:cC
 guard:Option (Nat×Bool)
def eP.er (o:eP):bL:=⟨o.dst,o.op.er,o.guard⟩
def ah.lit (σ:ah) (n:Nat) (b:Bool):ah:={σ with env:=aw σ.env n (.one (.v .bool b))}
theorem ah.Dl {σ:ah} {n:Nat} {b:Bool} (h:σ.env n=.one (.v .bool b)):(σ.lit n b).er=σ.er:=by
 have:aw σ.env n (.one (.v .bool b))=σ.env:=by
  funext s
  simp only[jg]
  split
  ·rename_i hs;subst hs;exact h.symm
  ·rfl
 simp only[ah.lit,this]
def qD (T:List aI):List eP->ah->(ah->Option ρ)->Option ρ
 |[],σ,k=>k σ
 |o::os,σ,k=>match o.guard with
  |none=>dN T o.dst o.op σ fun σ1=>qD T os σ1 k
  |some (s,kl)=>match σ.env s with
   |.one (.v .bool b)=>aJ b
    (match kl with
     |true=>dN T o.dst o.op (σ.lit s true) fun σ1=>qD T os σ1 k
     |false=>qD T os ((σ.lit s true).put o.dst (.bn [])) k)
    (match kl with
     |true=>qD T os ((σ.lit s false).put o.dst (.bn [])) k
     |false=>dN T o.dst o.op (σ.lit s false) fun σ1=>qD T os σ1 k)
   |.bn []=>qD T os (σ.put o.dst (.bn [])) k
   |_=>none
theorem Ua {T:List aI}:∀{os:List eP} {σ:ah} {k:ah->Option ρ} {r:ρ},qD T os σ k=some r->
  ∃σ1:ah,nG (de T) (os.map eP.er) σ.er=some σ1.er/\k σ1=some r
 |[],σ,k,r,h=>⟨σ,rfl,h⟩
 |o::os,σ,k,r,h=>by
  obtain⟨d,op,g⟩:=o
  have run:∀jD:ah,jD.er=σ.er->eC (de T) (eP.er ⟨d,op,g⟩) σ.er=aG (de T) d op.er σ.er->dN T d op jD (fun σ1=>qD T os σ1 k)=some r->
    ∃σ1:ah,nG (de T) ((⟨d,op,g⟩::os).map eP.er) σ.er=some σ1.er/\k σ1=some r:=by
   intro jD h0 he hs
   obtain⟨σ1,h1,h2⟩:=abw hs
   obtain⟨σ2,h3,h4⟩:=Ua h2
   rw[h0] at h1
   exact⟨σ2,by simp only[List.map_cons,nG,he,h1,h3],h4⟩
  have zq:∀jD:ah,jD.er=σ.er->eC (de T) (eP.er ⟨d,op,g⟩) σ.er=some (σ.er.put d (.bn []))->qD T os (jD.put d (.bn [])) k=some r->
    ∃σ1:ah,nG (de T) ((⟨d,op,g⟩::os).map eP.er) σ.er=some σ1.er/\k σ1=some r:=by
   intro jD h0 he hs
   obtain⟨σ2,h3,h4⟩:=Ua hs
   rw[ah.dh,h0] at h3
   exact⟨σ2,by simp only[List.map_cons,nG,he];exact h3,h4⟩
  cases g with
  |none=>exact run σ rfl rfl h
  |some g=>
   obtain⟨s,kl⟩:=g
   simp only[qD] at h
   split at h
   ·rename_i b hs
    have jL:σ.er.env s=.one (.c (.bool b)):=by show(σ.env s).er=_;rw[hs];rfl
    cases hb:(b:Bool) with
    |true=>
     have h0:(σ.lit s true).er=σ.er:=ah.Dl (by rw[hs,hb])
     rw[hb] at h
     simp only[Ag] at h
     cases kl with
     |true=>exact run _ h0 (by simp[eC,eP.er,jL,hb]) h
     |false=>exact zq _ h0 (by simp[eC,eP.er,jL,hb]) h
    |false=>
     have h0:(σ.lit s false).er=σ.er:=ah.Dl (by rw[hs,hb])
     rw[hb] at h
     simp only[HO] at h
     cases kl with
     |true=>exact zq _ h0 (by simp[eC,eP.er,jL,hb]) h
     |false=>exact run _ h0 (by simp[eC,eP.er,jL,hb]) h
   ·rename_i hs
    have jL:σ.er.env s=.bn []:=by show(σ.env s).er=_;rw[hs];rfl
    exact zq σ rfl (by simp[eC,eP.er,jL]) h
   ·cases h
def qE (T:List aI) (ps:List (Nat×Nat)):List eP->List (Option FP)->ah->(ah->Option ρ)->Option ρ
 |[],cL,σ,k=>eH (xa ps cL) (k σ)
 |o::os,cL,σ,k=>match o.guard with
  |none=>dN T o.dst o.op σ fun σ1=>qE T ps os (cL++[o.er.fp σ.er]) σ1 k
  |some (s,kl)=>match σ.env s with
   |.one (.v .bool b)=>aJ b
    (match kl with
     |true=>dN T o.dst o.op (σ.lit s true) fun σ1=>qE T ps os (cL++[o.er.fp (σ.lit s true).er]) σ1 k
     |false=>qE T ps os (cL++[o.er.fp (σ.lit s true).er]) ((σ.lit s true).put o.dst (.bn [])) k)
    (match kl with
     |true=>qE T ps os (cL++[o.er.fp (σ.lit s false).er]) ((σ.lit s false).put o.dst (.bn [])) k
     |false=>dN T o.dst o.op (σ.lit s false) fun σ1=>qE T ps os (cL++[o.er.fp (σ.lit s false).er]) σ1 k)
   |.bn []=>qE T ps os (cL++[o.er.fp σ.er]) (σ.put o.dst (.bn [])) k
   |_=>none
theorem T9 {T:List aI} {ps:List (Nat×Nat)}:∀{os:List eP} {cL:List (Option FP)} {σ:ah} {k:ah->Option ρ} {r:ρ},qE T ps os cL σ k=some r->
  ∃(σ1:ah) (fs:List (Option FP)),qU (de T) (os.map eP.er) cL σ.er=some (fs,σ1.er)/\xa ps fs=true/\k σ1=some r
 |[],cL,σ,k,r,h=>⟨σ,cL,rfl,(bT h).1,(bT h).2⟩
 |o::os,cL,σ,k,r,h=>by
  obtain⟨d,op,g⟩:=o
  have run:∀jD:ah,jD.er=σ.er->eC (de T) (eP.er ⟨d,op,g⟩) σ.er=aG (de T) d op.er σ.er->dN T d op jD (fun σ1=>qE T ps os (cL++[(eP.er ⟨d,op,g⟩).fp jD.er]) σ1 k)=some r->
    ∃(σ1:ah) (fs:List (Option FP)),qU (de T) ((⟨d,op,g⟩::os).map eP.er) cL σ.er=some (fs,σ1.er)/\xa ps fs=true/\k σ1=some r:=by
   intro jD h0 he hs
   obtain⟨σ1,h1,h2⟩:=abw hs
   obtain⟨σ2,fs,h3,h4⟩:=T9 h2
   rw[h0] at h1 h3
   exact⟨σ2,fs,by simp only[List.map_cons,qU,he,h1,h3],h4⟩
  have zq:∀jD:ah,jD.er=σ.er->eC (de T) (eP.er ⟨d,op,g⟩) σ.er=some (σ.er.put d (.bn []))->qE T ps os (cL++[(eP.er ⟨d,op,g⟩).fp jD.er]) (jD.put d (.bn [])) k=some r->
    ∃(σ1:ah) (fs:List (Option FP)),qU (de T) ((⟨d,op,g⟩::os).map eP.er) cL σ.er=some (fs,σ1.er)/\xa ps fs=true/\k σ1=some r:=by
   intro jD h0 he hs
   obtain⟨σ2,fs,h3,h4⟩:=T9 hs
   rw[ah.dh,h0] at h3
   exact⟨σ2,fs,by simp only[List.map_cons,qU,he];exact h3,h4⟩
  cases g with
  |none=>exact run σ rfl rfl h
  |some g=>
   obtain⟨s,kl⟩:=g
   simp only[qE] at h
   split at h
   ·rename_i b hs
    have jL:σ.er.env s=.one (.c (.bool b)):=by show(σ.env s).er=_;rw[hs];rfl
    cases hb:(b:Bool) with
    |true=>
     have h0:(σ.lit s true).er=σ.er:=ah.Dl (by rw[hs,hb])
     rw[hb] at h
     simp only[Ag] at h
     cases kl with
     |true=>exact run _ h0 (by simp[eC,eP.er,jL,hb]) h
     |false=>exact zq _ h0 (by simp[eC,eP.er,jL,hb]) h
    |false=>
     have h0:(σ.lit s false).er=σ.er:=ah.Dl (by rw[hs,hb])
     rw[hb] at h
     simp only[HO] at h
     cases kl with
     |true=>exact zq _ h0 (by simp[eC,eP.er,jL,hb]) h
     |false=>exact run _ h0 (by simp[eC,eP.er,jL,hb]) h
   ·rename_i hs
    have jL:σ.er.env s=.bn []:=by show(σ.env s).er=_;rw[hs];rfl
    exact zq σ rfl (by simp[eC,eP.er,jL]) h
   ·cases h
end
end Go.Am
