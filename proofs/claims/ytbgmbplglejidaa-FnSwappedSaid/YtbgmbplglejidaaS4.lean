/- S4: operations of the typed evaluator. No condition. -/
import Derived.Test.YtbgmbplglejidaaS3
set_option linter.unusedVariables false
namespace Go.Am
theorem amK {α β:Type} (f:α->β) {l:List α} {i:Nat} {e:α} (h:l[i]? =some e):(l.map f)[i]? =some (f e):=by rw[List.getElem?_map,h];rfl
section
variable {ρ:Type}
def K3:Bool->Mode
 |true=>.ae
 |false=>.aG
theorem app (o:Bool):(if o=true then Mode.ae else .aG)=K3 o:=by cases o<;>rfl
def KY (σ:ah) (d:Int) (o:Option cO):Option Int:=
 match o with
 |none=>some d
 |some q=>(σ.ev q).dn
theorem KZ {σ:ah} {d l:Int} {o:Option cO} (h:KY σ d o=some l):(match o.map cO.er with|none=>some d|some q=>(σ.er.ev q).dn)=some l:=by
 cases o with
 |none=>exact h
 |some q=>simp only[Option.map_some,ah.du];exact SV.zF h
def ub (bQ:Bool) (n:Int) (c:SC):List SC:=match bQ with
 |true=>[.v (.int .i64) n,.v (.int .i64) (1:Int),c]
 |false=>[.v (.int .i64) (1:Int),.v (.int .i64) n,c]
theorem WH (bQ:Bool) (n:Int) (c:SC):(ub bQ n c).map SC.er=lV bQ n c.er:=by cases bQ<;>rfl
def Ap:List SC->Option (List TD)
 |[]=>some []
 |.v t x::l=>match t.eV with
  |true=>match Ap l with
   |some ds=>some (⟨t,x⟩::ds)
   |none=>none
  |false=>none
 |_::_=>none
theorem adn:∀{vs:List SC} {ds:List TD},Ap vs=some ds->mC (vs.map SC.er)=some (cQ ds)
 |[],ds,h=>by simp only[Ap] at h;injection h with h;subst h;rfl
 |c::vs,ds,h=>by
  cases c with
  |v t x=>
   simp only[Ap] at h
   split at h
   ·rename_i hs
    split at h
    ·rename_i l hl
     injection h with h
     subst h
     simp only[List.map_cons,SC.er,mC,Ty.xO,hs,if_true,adn hl,cQ,Option.map_some]
    ·cases h
   ·cases h
  |_=>simp[Ap] at h
def WJ (us:List Ty) (e:Ty.DL us) (off s i:Nat) (vs:List SC) (k:Ty.DL us->Option ρ):Option ρ:=
 match(Ty.iq us e)[off]? with
 |some ⟨.list ts,ys⟩=>cW ts.length s (cW vs.length s (fi (Ty.fK ts) ((dt (α:=Ty.DL ts) ys i).ab fun _=>match Ap vs with
  |some ds=>match rf ts ds with
   |some el=>match Lt us e off ⟨.list ts,bR (α:=Ty.DL ts) ys i el⟩ with
    |some e'=>k e'
    |none=>none
   |none=>none
  |none=>none)))
 |_=>none
theorem arO {us ts:List Ty} {xs:List (Ty.DL us)} {kk off i:Nat} {e e':Ty.DL us} {vs:List SC} {ds:List TD} {el y0:Ty.DL ts} (ys:List (Ty.DL ts)) (he:xs[kk]? =some e) (hd:(Ty.iq us e)[off]? =some ⟨.list ts,ys⟩)
  (jg:vs.length=ts.length) (hs:Ty.fK ts=true) (hy:ys[i]? =some y0) (nR:Ap vs=some ds) (nU:rf ts ds=some el) (zq:Lt us e off ⟨.list ts,bR ys i el⟩=some e'):
  vI (List.map (Ty.aI us) xs) kk off ts.length i (vs.map SC.er)=some (List.map (Ty.aI us) (bR xs kk e')):=by
 have nW:(Ty.aI us e)[off]? =some (.list ts.length (List.map (Ty.aI ts) ys)):=NS hd
 have hx:(List.map (Ty.aI us) xs)[kk]? =some (Ty.aI us e):=by rw[List.getElem?_map,he];rfl
 have hi:i<(List.map (Ty.aI ts) ys).length:=by rw[List.length_map];exact(List.getElem?_eq_some_iff.1 hy).1
 have aaG:Ty.aI us e'=(Ty.aI us e).set off (.list ts.length (List.map (Ty.aI ts) (bR ys i el))):=adq zq
 unfold vI
 rw[hx,Option.bind_some,nW]
 simp only
 rw[if_pos ⟨trivial,by simpa using jg,hi,Ao ts ys hs⟩,adn nR,List.getD_eq_getElem?_getD,hx]
 simp only[Option.map_some,Option.getD_some]
 unfold bR at aaG⊢
 rw[List.map_set,aaG,List.map_set,xx nU]
theorem asp {us:List Ty} {xs:List (Ty.DL us)} {kk:Nat} {e:Ty.DL us} {off s i:Nat} {vs:List SC} {k:Ty.DL us->Option ρ} {r:ρ} (he:xs[kk]? =some e) (h:WJ us e off s i vs k=some r):
  ∃e',vI (List.map (Ty.aI us) xs) kk off s i (vs.map SC.er)=some (List.map (Ty.aI us) (bR xs kk e'))/\k e'=some r:=by
 unfold WJ at h
 split at h
 ·rename_i ts ys hd
  have sb:=(bi h).1;replace h:=(bi h).2
  have uY:=(bi h).1;replace h:=(bi h).2
  have hs:=(cB h).1;replace h:=(cB h).2
  rw[eZ] at h
  obtain⟨y0,hy,h⟩:=h
  split at h
  ·rename_i ds nR
   split at h
   ·rename_i el nU
    split at h
    ·rename_i e' zq
     subst sb
     exact⟨e',arO ys he hd uY hs hy nR nU zq,h⟩
    ·cases h
   ·cases h
  ·cases h
 ·cases h
def dY (T:List az) (d:Option Nat) (op:cU) (σ:ah) (k:ah->Option ρ):Option ρ:=
 match op with
 |.mv x=>k (σ.put d (σ.ev x))
 |.pick c x y=>match σ.ev c with
  |.one (.v .bool b)=>match σ.ev x,σ.ev y with
   |.one (.v t x'),.one (.v u y')=>match Ty.cast u t y' with
    |some z=>k (σ.put d (.one (.v t (ax b x' z))))
    |none=>ax b (k (σ.put d (σ.ev x))) (k (σ.put d (σ.ev y)))
   |_,_=>ax b (k (σ.put d (σ.ev x))) (k (σ.put d (σ.ev y)))
  |_=>none
 |.alloc zs=>match d with
  |some n=>match σ.ins n (.box zs) with
   |some σ1=>k (σ1.put d (.one (.ptr n 0 0 0)))
   |none=>none
  |none=>none
 |.box sz x=>match d,(σ.ev x).cells? with
  |some n,some (_,cs)=>cW cs.length sz (match σ.ins n (.box cs) with
   |some σ1=>k (σ1.put d (.one (.ptr n 0 0 0)))
   |none=>none)
  |_,_=>none
 |.build zs parts=>match GF σ.ev zs parts with
  |some cs=>k (σ.put d (.agg cs))
  |none=>none
 |.gd ts parts=>match d with
  |some n=>LP ts σ (parts.map σ.ev) fun es o σ1=>match σ1.ins n (.row true (K3 o) ts es) with
   |some σ2=>k (σ2.put d (.one (.sl n ts.length 0 es.length)))
   |none=>none
  |none=>none
 |.load ag sz x=>match σ.ev x with
  |.one p=>Gt σ.h p sz fun cs=>k (σ.put d (AF ag cs))
  |_=>none
 |.oZ ag sz x=>match σ.ev x with
  |.one p=>Wa σ p fun σ1=>Gt σ1.h p sz fun cs=>k (σ1.put d (AF ag cs))
  |_=>none
 |.store sz x v=>match σ.ev x,(σ.ev v).cells? with
  |.one (.ptr n kk aE off),some (_,vs)=>cW vs.length sz (match σ.h n with
   |some (.box cs)=>cW kk 0 (fi (Nat.ble (off+sz) cs.length) (k (σ.dB n (.box (cv cs off vs)))))
   |some (.row gr m ts xs)=>cW aE ts.length ((dt xs kk).ab fun e=>WK σ n gr m ts xs kk off e vs k)
   |none=>none)
  |.one (.c7 n kk aE off s i),some (_,vs)=>cW vs.length sz (match σ.h n with
   |some (.row gr .live us xs)=>cW aE us.length ((dt xs kk).ab fun e=>WJ us e off s i vs fun e'=>k (σ.dB n (.row gr .live us (bR xs kk e'))))
   |_=>none)
  |_,_=>none
 |.gZ x=>match σ.ev x with
  |.one (.ptr n kk sz off)=>fi (σ.h n).isSome (k (σ.put d (.one (.ptr n kk sz off))))
  |.one (.cH ts x off)=>k (σ.put d (.one (.cH ts x off)))
  |_=>none
 |.bin op x y=>Nl op (σ.ev x) (σ.ev y) fun t z=>k (σ.put d (.one (.v t z)))
 |.oJ op x y=>Nk op (σ.ev x) (σ.ev y) fun t z=>k (σ.put d (.one (.v t z)))
 |.un op x=>Xd op (σ.ev x) fun t z=>k (σ.put d (.one (.v t z)))
 |.conv kd x=>match σ.ev x with
  |.one (.v (.int _) n)=>k (σ.put d (.one (.v (.int kd) (yH kd n))))
  |_=>none
 |.kF m ts by_ z l c=>match d,(σ.ev l).dn,(σ.ev c).dn with
  |some n,some a,some b=>(rh a b by_).ab fun len=>match σ.ins n (.row true m ts (eU len z)) with
   |some σ1=>k (σ1.put d (.one (.sl n ts.length 0 len)))
   |none=>none
  |_,_,_=>none
 |.slice sz x lo hi=>
  match σ.ev x,KY σ 0 lo with
  |.one (.sl n s l0 len),some l=>
   match KY σ (aS len) hi with
   |some h=>cW s sz (fi (σ.h n).isSome ((mR l h len).ab fun p=>k (σ.put d (.one (.sl n s (bj l0 p.1) p.2)))))
   |none=>none
  |.one (.v (.list ts) xs),some l=>
   match KY σ (aS (aa (α:=Ty.DL ts) xs)) hi with
   |some h=>cW ts.length sz ((mR l h (aa (α:=Ty.DL ts) xs)).ab fun p=>k (σ.put d (.one (.v (.list ts) (lr (α:=Ty.DL ts) xs p.1 p.2)))))
   |none=>none
  |_,_=>none
 |.tail sz x lo=>match d,σ.ev x,(σ.ev lo).dn with
  |some n,.one (.sl a s l0 len),some l=>match σ.h a with
   |some (.row true m ts xs)=>cW s ts.length (cW ts.length sz (cW l0 0 ((ai l0 len (aa xs)).ab fun _=>(mR l (aS (aa xs)) (aa xs)).ab fun p=>
    match(σ.del a).ins n (.row true m ts (lr xs p.1 p.2)) with
    |some σ1=>k (σ1.put d (.one (.sl n sz 0 p.2)))
    |none=>none)))
   |_=>none
  |_,_,_=>none
 |.aw off x=>match σ.ev x with
  |.one (.ptr n kk sz o)=>fi (σ.h n).isSome (k (σ.put d (.one (.ptr n kk sz (o+off)))))
  |.one (.cH ts x o)=>k (σ.put d (.one (.cH ts x (o+off))))
  |_=>none
 |.cf sz x i=>match σ.ev x,(σ.ev i).dn with
  |.one (.sl n s lo len),some j=>cW s sz (fi (σ.h n).isSome ((fj j len).ab fun q=>k (σ.put d (.one (.ptr n (bj lo q) s 0)))))
  |.one (.v (.list ts) xs),some j=>cW ts.length sz ((eo (α:=Ty.DL ts) xs j).ab fun e=>k (σ.put d (.one (.cH ts e 0))))
  |.one (.bE n kk aE off s len),some j=>xX σ.h (.bE n kk aE off s len) fun t x=>match t,x with
   |.list ts,ys=>cW ts.length sz ((fj j (aa (α:=Ty.DL ts) ys)).ab fun q=>k (σ.put d (.one (.c7 n kk aE off sz q))))
   |_,_=>none
  |_,_=>none
 |.ext i x=>match σ.ev x with
  |.br xs=>match xs[i]? with
   |some (ag,cs)=>k (σ.put d (AF ag cs))
   |none=>none
  |_=>none
 |.pI ag off sz x=>match σ.ev x with
  |.agg cs=>match sub cs off sz with
   |some l=>k (σ.put d (AF ag l))
   |none=>none
  |_=>none
 |.pk f bQ x=>match σ.ev x with
  |.one (.sl n sz lo len)=>fi (σ.h n).isSome (k (σ.put d (.agg (ub bQ (aS len) (.sl n sz lo len)))))
  |.one (.v (.list ts) xs)=>k (σ.put d (.agg (ub bQ (aS (aa (α:=Ty.DL ts) xs)) (.v (.list ts) xs))))
  |.one (.nil ts)=>k (σ.put d (.agg (ub bQ (0:Int) (.nil ts))))
  |_=>none
 |.len x=>match σ.ev x with
  |.one (.sl n sz lo len)=>fi (σ.h n).isSome (k (σ.put d (.one (.v (.int .i64) (aS len)))))
  |.one (.v (.list ts) xs)=>k (σ.put d (.one (.v (.int .i64) (aS (aa (α:=Ty.DL ts) xs)))))
  |.one (.nil ts)=>k (σ.put d (.one (.v (.int .i64) (0:Int))))
  |.one (.bE n kk aE off sz len)=>xX σ.h (.bE n kk aE off sz len) fun t x=>match t,x with
   |.list ts,ys=>k (σ.put d (.one (.v (.int .i64) (aS (aa (α:=Ty.DL ts) ys)))))
   |_,_=>none
  |_=>none
 |.append fl ts by_ x y=>match d with
  |none=>none
  |some n=>UT σ ts (σ.ev x) fun xs m σ1=>UU fl σ1 ts m (σ.ev y) fun ys m2 σ2=>
   (lH (bj (aa xs) (aa ys)) by_).ab fun _=>match σ2.ins n (.row true m2 ts (eY xs ys)) with
    |some g9=>k (g9.put d (.one (.sl n ts.length 0 (bj (aa xs) (aa ys)))))
    |none=>none
 |.mm mx x y=>match σ.ev x,σ.ev y with
  |.one (.v (.int kd) a),.one (.v (.int kd') b)=>match mx with
   |true=>k (σ.put d (.one (.v (.int kd) (zW a b))))
   |false=>k (σ.put d (.one (.v (.int kd) (o7 a b))))
  |_,_=>none
 |.call m f xs=>Ls T m d f (xs.map σ.ev) σ k
 |.mV f xs=>V3 T d f (xs.map σ.ev) σ k
 |.copy x y=>match σ.ev x,σ.ev y with
  |.one (.sl n s lo len),.one c=>match σ.h n with
   |some (.row gr m ts xs)=>cW s 1 (cW ts.length 1 (fi (m.own&&Ty.fK ts) (xX σ.h c fun u ys=>match u,ys with
    |.list us,ys=>match Ty.cast (.list us) (.list ts) ys with
     |some zs=>(Jm (α:=Ty.DL ts) xs lo len (List.take (α:=Ty.DL ts) len zs)).ab fun au=>k ((σ.dB n (.row gr m ts au)).put d (.one (.v (.int .i64) (aS (Nat.min (aa (α:=Ty.DL ts) zs) len)))))
     |none=>none
    |_,_=>none)))
   |_=>none
  |_,_=>none
 |.lE t z x=>match σ.ev x with
  |.one (.sl n s lo len)=>match σ.h n with
   |some (.row gr m ts xs)=>cW s 1 (fi (m.own&&t.eV) (match rf ts [⟨t,z⟩] with
    |some e=>(Jm (α:=Ty.DL ts) xs lo len (eU len e)).ab fun au=>k ((σ.dB n (.row gr m ts au)).put d (.br []))
    |none=>none))
   |_=>none
  |_=>none
 |.qe f xs=>match Av (xs.map σ.ev) with
  |some cs=>k (σ.put d (.one (.fn f cs)))
  |none=>none
 |.mW m x xs=>match σ.ev x with
  |.one (.fn f cF)=>Ls T m d f (xs.map σ.ev++cF.map .one) σ k
  |_=>none
 |.fU m f xs=>V4 T m d f (xs.map σ.ev) σ k
 |.dT f xs=>V2 T d f (xs.map σ.ev) σ k
 |.mX f xs=>V6 T d f (xs.map σ.ev) σ k
 |.mz f xs=>V5 T d f (xs.map σ.ev) σ k
theorem EG {σ:ah} {n:Nat} {b:SB} (h:σ.h n=some b):σ.er.h n=some b.er:=by simp[ah.er,dc,h]
theorem BP {σ:ah} {n:Nat} (h:(σ.h n).isSome=true):(σ.er.h n).isSome=true:=by
 simp only[ah.er,Zk,h]
theorem Xi (t:Ty) (x:t.D):(SV.one (.v t x)).er=.one (.c (t.er x)):=rfl
theorem YR {ts:List Ty} {xs au ys:List (Ty.DL ts)} {lo len:Nat} (h:Jm xs lo len ys=some au):lo+len<=xs.length/\List.map (Ty.aI ts) au=cv (List.map (Ty.aI ts) xs) lo (List.map (Ty.aI ts) ys):=by
 unfold Jm at h
 split at h
 ·rename_i hc
  injection h with h
  subst h
  exact⟨hc,DA (Ty.aI ts) xs ys lo⟩
 ·cases h
theorem Ty.afJ {t u:Ty} {x:t.D} {y:u.D} (h:Ty.cast t u x=some y):t.er x=u.er y:=by
 unfold Ty.cast at h
 split at h
 ·rename_i he
  have:=Ty.beq_eq he
  subst this
  injection h with h
  rw[<-h]
 ·cases h
theorem adt {T:List az} {d:Option Nat} {op:cU} {σ:ah} {k:ah->Option ρ} {r:ρ} (h:dY T d op σ k=some r):
  ∃σ1:ah,exec (cX T) d op.er σ.er=some σ1.er/\k σ1=some r:=by
 cases op with
 |mv x=>exact⟨_,by simp only[cU.er,exec,ah.dv,ah.du],h⟩
 |pick c x y=>
  simp only[dY] at h
  split at h
  ·rename_i b hc
   have cA:σ.er.ev c.er=.one (.c (.bool b)):=by rw[ah.du,hc];rfl
   have bZ:∀σ1:ah,σ1.er=σ.er.put d (cond b (σ.ev x).er (σ.ev y).er)->exec (cX T) d (cU.er (.pick c x y)) σ.er=some σ1.er:=by
    intro σ1 e
    simp only[cU.er,exec,cA,ah.du,e]
    cases b<;>rfl
   have gen:ax b (k (σ.put d (σ.ev x))) (k (σ.put d (σ.ev y)))=some r->∃σ1:ah,exec (cX T) d (cU.er (.pick c x y)) σ.er=some σ1.er/\k σ1=some r:=by
    intro h
    cases hb:(b:Bool) with
    |true=>rw[hb] at h;exact⟨_,bZ _ (by rw[ah.dv,hb];rfl),h⟩
    |false=>rw[hb] at h;exact⟨_,bZ _ (by rw[ah.dv,hb];rfl),h⟩
   split at h
   ·rename_i t x' u y' ex ey
    split at h
    ·rename_i z hz
     refine⟨_,bZ _ ?_,h⟩
     rw[ah.dv,ex,ey,Xi,Xi,Xi,Ty.Yl hz]
     cases (b:Bool)<;>rfl
    ·exact gen h
   ·exact gen h
  ·cases h
 |alloc zs=>
  simp only[dY] at h
  split at h
  ·rename_i n
   split at h
   ·rename_i σ1 e
    have:=ah.th e
    exact⟨_,by simp only[cU.er,exec];rw[show ar.box (zs.map SC.er)=(SB.box zs).er from rfl,this,ah.dv];rfl,h⟩
   ·cases h
  ·cases h
 |box sz x=>
  simp only[dY] at h
  split at h
  ·rename_i n b cs hc
   have bw:=(bi h).1;replace h:=(bi h).2;subst bw
   split at h
   ·rename_i σ1 e
    have:=ah.th e
    refine⟨_,?_,h⟩
    simp only[cU.er,exec,ah.du,SV.mA hc,List.length_map,if_true]
    rw[show ar.box (cs.map SC.er)=(SB.box cs).er from rfl,this,ah.dv];rfl
   ·cases h
  ·cases h
 |build zs parts=>
  simp only[dY] at h
  split at h
  ·rename_i cs hc
   exact⟨_,by simp only[cU.er,exec,aeh hc,ah.dv];rfl,h⟩
  ·cases h
 |gd ts parts=>
  simp only[dY] at h
  split at h
  ·rename_i n
   obtain⟨es,o,σ1,h1,h2⟩:=aei h
   split at h2
   ·rename_i σ2 e
    have i:=ah.th e
    refine⟨_,?_,h2⟩
    simp only[cU.er,exec,uI,h1,ah.dv]
    have:(SB.row true (K3 o) ts es).er=ar.row true (K3 o) ts.length (List.map (Ty.aI ts) es):=rfl
    rw[app,<-this,i,List.length_map]
    rfl
   ·cases h2
  ·cases h
 |load ag sz x=>
  simp only[dY] at h
  split at h
  ·rename_i p hp
   obtain⟨l,h1,h2⟩:=Wj h
   have bg:σ.er.ev x.er=.one p.er:=by rw[ah.du,hp];rfl
   have kq:loadAt σ.er.h p.er sz=some (l.map SC.er):=h1
   exact⟨_,by simp only[cU.er,exec,bg,kq,ah.dv,DI],h2⟩
  ·cases h
 |oZ ag sz x=>
  simp only[dY] at h
  split at h
  ·rename_i p hp
   obtain⟨σ1,h0,h⟩:=arP h
   obtain⟨l,h1,h2⟩:=Wj h
   have bg:σ.er.ev x.er=.one p.er:=by rw[ah.du,hp];rfl
   have kq:loadAt σ1.er.h p.er sz=some (l.map SC.er):=h1
   exact⟨_,by simp only[cU.er,exec,bg,h0,kq,ah.dv,DI],h2⟩
  ·cases h
 |store sz x v=>
  simp only[dY] at h
  split at h
  ·rename_i n kk aE off b vs hp hc
   have bw:=(bi h).1;replace h:=(bi h).2;subst bw
   have bg:σ.er.ev x.er=.one (.ptr n kk aE off):=by rw[ah.du,hp];rfl
   have cA:(σ.er.ev v.er).cells?=some (b,vs.map SC.er):=by rw[ah.du];exact SV.mA hc
   split at h
   ·rename_i cs hn
    have bw:=(bi h).1;replace h:=(bi h).2;subst bw
    have hb:=(cB h).1;replace h:=(cB h).2
    have ig:=Nat.le_of_ble_eq_true hb
    refine⟨_,?_,h⟩
    simp only[cU.er,exec,bg,cA,List.length_map,if_true,EG hn,SB.er,ig,and_self,ah.pF,<-DA]
   ·rename_i gr m ts xs hn
    have bw:=(bi h).1;replace h:=(bi h).2;subst bw
    rw[eZ] at h
    obtain⟨e,he,h⟩:=h
    replace he:xs[kk]? =some e:=he
    obtain⟨σ1,s1,s2⟩:=asq h
    refine⟨σ1,?_,s2⟩
    have nW:(List.map (Ty.aI ts) xs)[kk]? =some (Ty.aI ts e):=by rw[List.getElem?_map,he];rfl
    simp only[cU.er,exec,bg,cA,List.length_map,if_true,EG hn,SB.er,nW,s1]
   ·cases h
  ·rename_i n kk aE off s i b vs hp hc
   have bw:=(bi h).1;replace h:=(bi h).2;subst bw
   have bg:σ.er.ev x.er=.one (.c7 n kk aE off s i):=by rw[ah.du,hp];rfl
   have cA:(σ.er.ev v.er).cells?=some (b,vs.map SC.er):=by rw[ah.du];exact SV.mA hc
   split at h
   ·rename_i gr us xs hn
    have bw:=(bi h).1;replace h:=(bi h).2;subst bw
    rw[eZ] at h
    obtain⟨e,he,h⟩:=h
    replace he:xs[kk]? =some e:=he
    obtain⟨e',s1,s2⟩:=asp he h
    refine⟨_,?_,s2⟩
    simp only[cU.er,exec,bg,cA,List.length_map,if_true,EG hn,SB.er,s1,ah.pF]
   ·cases h
  ·cases h
 |gZ x=>
  simp only[dY] at h
  split at h
  ·rename_i n kk sz off hp
   have hb:=(cB h).1;replace h:=(cB h).2
   have bg:σ.er.ev x.er=.one (.ptr n kk sz off):=by rw[ah.du,hp];rfl
   exact⟨_,by simp only[cU.er,exec,bg,BP hb,if_true,ah.dv];rfl,h⟩
  ·rename_i ts y off hp
   have bg:σ.er.ev x.er=.one (.cH (Ty.aI ts y) off):=by rw[ah.du,hp];rfl
   exact⟨_,by simp only[cU.er,exec,bg,ah.dv];rfl,h⟩
  ·cases h
 |bin op x y=>
  simp only[dY] at h
  obtain⟨t,z,h1,h2⟩:=afB h
  exact⟨_,by simp only[cU.er,exec,ah.du,h1,ah.dv];rfl,h2⟩
 |oJ op x y=>
  simp only[dY] at h
  obtain⟨t,z,h1,h2⟩:=afz h
  exact⟨_,by simp only[cU.er,exec,ah.du,h1,ah.dv];rfl,h2⟩
 |un op x=>
  simp only[dY] at h
  obtain⟨t,z,h1,h2⟩:=asW h
  exact⟨_,by simp only[cU.er,exec,ah.du,h1,ah.dv];rfl,h2⟩
 |conv kd x=>
  simp only[dY] at h
  split at h
  ·rename_i k' n hp
   have bg:σ.er.ev x.er=.one (.c (.int k' n)):=by rw[ah.du,hp];rfl
   exact⟨_,by simp only[cU.er,exec,bg,ah.dv];rfl,h⟩
  ·cases h
 |kF m ts by_ z l c=>
  simp only[dY] at h
  split at h
  ·rename_i n a b ha hb
   rw[eZ] at h
   obtain⟨len,hm,h⟩:=h
   unfold rh at hm
   split at hm
   ·rename_i cV
    injection hm with hm
    subst hm
    split at h
    ·rename_i σ1 e
     have i:=ah.th e
     have uR:(σ.er.ev l.er).dn=some a:=by rw[ah.du];exact SV.zF ha
     have be:(σ.er.ev c.er).dn=some b:=by rw[ah.du];exact SV.zF hb
     refine⟨_,?_,h⟩
     have hz:(Ty.aI ts z).length=ts.length:=Ty.EE ts z
     have fo:(SB.row true m ts (eU a.toNat z)).er=ar.row true m ts.length (List.replicate a.toNat (Ty.aI ts z)):=by simp[SB.er,eU,List.map_replicate]
     have Ps:a<=b/\0<=a/\b.toNat*by_<=eQ/\(Ty.aI ts z).length=ts.length:=⟨cV.1,cV.2.1,cV.2.2,hz⟩
     simp only[cU.er,exec,uR,be,if_pos Ps,<-fo,i,ah.dv]
     rfl
    ·cases h
   ·cases hm
  ·cases h
 |slice sz x lo hi=>
  simp only[dY] at h
  split at h
  ·rename_i n s l0 len l hp el
   have bg:σ.er.ev x.er=.one (.sl n s l0 len):=by rw[ah.du,hp];rfl
   split at h
   ·rename_i hh eh
    have bw:=(bi h).1;replace h:=(bi h).2;subst bw
    have hb:=(cB h).1;replace h:=(cB h).2
    rw[eZ] at h
    obtain⟨p,hs,h⟩:=h
    unfold mR at hs
    split at hs
    ·rename_i cV
     injection hs with hs
     subst hs
     refine⟨_,?_,h⟩
     have uV:s=s/\0<=l/\l<=hh/\hh<=len/\(σ.er.h n).isSome=true:=⟨rfl,cV.1,cV.2.1,cV.2.2,BP hb⟩
     have e1:=KZ el
     have e2:=KZ eh
     rw[ah.dv]
     cases lo with
     |none=>
      simp only[Option.map_none,Option.some.injEq] at e1
      subst e1
      cases hi with
      |none=>
       simp only[Option.map_none,Option.some.injEq] at e2
       subst e2
       simp only[cU.er,exec,bg,Option.map_none]
       exact if_pos ⟨trivial,uV.2⟩
      |some q=>
       simp only[Option.map_some] at e2
       simp only[cU.er,exec,bg,Option.map_none,Option.map_some,e2]
       exact if_pos ⟨trivial,uV.2⟩
     |some q0=>
      simp only[Option.map_some] at e1
      cases hi with
      |none=>
       simp only[Option.map_none,Option.some.injEq] at e2
       subst e2
       simp only[cU.er,exec,bg,Option.map_none,Option.map_some,e1]
       exact if_pos ⟨trivial,uV.2⟩
      |some q=>
       simp only[Option.map_some] at e2
       simp only[cU.er,exec,bg,Option.map_some,e1,e2]
       exact if_pos ⟨trivial,uV.2⟩
    ·cases hs
   ·cases h
  ·rename_i ts xs l hp el
   have bg:σ.er.ev x.er=.one (.c (.list ts.length (List.map (Ty.aI ts) xs))):=by rw[ah.du,hp];rfl
   split at h
   ·rename_i hh eh
    have bw:=(bi h).1;replace h:=(bi h).2;subst bw
    rw[eZ] at h
    obtain⟨p,hs,h⟩:=h
    unfold mR at hs
    split at hs
    ·rename_i cV
     injection hs with hs
     subst hs
     refine⟨_,?_,h⟩
     have uV:ts.length=ts.length/\0<=l/\l<=hh/\hh<=(List.map (Ty.aI ts) xs).length:=⟨rfl,cV.1,cV.2.1,Int.le_trans cV.2.2 (Int.le_of_eq (congrArg _ (List.length_map (Ty.aI ts)).symm))⟩
     have e1:=KZ el
     have e2:(match hi.map cO.er with|none=>some (((List.map (Ty.aI ts) xs).length:Nat):Int)|some q=>(σ.er.ev q).dn)=some hh:=by rw[show(List.map (Ty.aI ts) xs).length=List.length (α:=Ty.DL ts) xs from List.length_map (Ty.aI ts)];exact KZ eh
     rw[ah.dv]
     have Ka:List.map (Ty.aI ts) (List.take (hh - l).toNat (List.drop (α:=Ty.DL ts) l.toNat xs))=((List.map (Ty.aI ts) xs).drop l.toNat).take (hh - l).toNat:=by
      rw[List.map_take]
      exact congrArg (List.take (hh - l).toNat) List.map_drop
     refine Eq.trans ?_ (congrArg (fun q=>some (σ.er.put d (ak.one (.c (.list ts.length q))))) Ka.symm)
     cases lo with
     |none=>
      simp only[Option.map_none,Option.some.injEq] at e1
      subst e1
      cases hi with
      |none=>
       simp only[Option.map_none,Option.some.injEq] at e2
       subst e2
       simp only[cU.er,exec,bg,Option.map_none]
       exact if_pos ⟨trivial,uV.2⟩
      |some q=>
       simp only[Option.map_some] at e2
       simp only[cU.er,exec,bg,Option.map_none,Option.map_some,e2]
       exact if_pos ⟨trivial,uV.2⟩
     |some q0=>
      simp only[Option.map_some] at e1
      cases hi with
      |none=>
       simp only[Option.map_none,Option.some.injEq] at e2
       subst e2
       simp only[cU.er,exec,bg,Option.map_none,Option.map_some,e1]
       exact if_pos ⟨trivial,uV.2⟩
      |some q=>
       simp only[Option.map_some] at e2
       simp only[cU.er,exec,bg,Option.map_some,e1,e2]
       exact if_pos ⟨trivial,uV.2⟩
    ·cases hs
   ·cases h
  ·cases h
 |tail sz x lo=>
  simp only[dY] at h
  split at h
  ·rename_i n a0 s l0 len l hp hl
   have bg:σ.er.ev x.er=.one (.sl a0 s l0 len):=by rw[ah.du,hp];rfl
   have dQ:(σ.er.ev lo.er).dn=some l:=by rw[ah.du];exact SV.zF hl
   split at h
   ·rename_i m ts xs hn
    have bw:=(bi h).1;replace h:=(bi h).2;subst bw
    have bw:=(bi h).1;replace h:=(bi h).2;subst bw
    have bw:=(bi h).1;replace h:=(bi h).2;subst bw
    rw[eZ] at h
    obtain⟨_,hf,h⟩:=h
    obtain⟨_,hlen⟩:=O9 hf
    rw[eZ] at h
    obtain⟨p,hs,h⟩:=h
    unfold mR at hs
    split at hs
    ·rename_i cV
     injection hs with hs
     subst hs
     simp only at h
     split at h
     ·rename_i σ1 e1
      refine⟨_,?_,h⟩
      have ai4:len=xs.length:=hlen
      have aam:0<=l/\l<=(xs.length:Int):=⟨cV.1,cV.2.1⟩
      have bm:σ.er.h a0=some (.row true m ts.length (List.map (Ty.aI ts) xs)):=by simp[ah.er,dc,hn,SB.er]
      have i1:=ah.th e1
      have e2:(aS (aa xs) - l).toNat=xs.length - l.toNat:=by simp only[aS,aa];omega
      have e3:lr xs l.toNat (aS (aa xs) - l).toNat=xs.drop l.toNat:=by rw[e2];unfold lr;rw[List.take_of_length_le (by simp)]
      rw[e3] at i1
      simp only[SB.er,ah.Jz,List.map_drop] at i1
      simp only[cU.er,exec,bg,dQ,bm,List.length_map,ai4,aam.1,aam.2,and_self,if_true,i1,ah.dv,SV.er,SC.er,e2]
     ·cases h
    ·cases hs
   ·cases h
  ·cases h
 |aw off x=>
  simp only[dY] at h
  split at h
  ·rename_i n kk sz o hp
   have hb:=(cB h).1;replace h:=(cB h).2
   have bg:σ.er.ev x.er=.one (.ptr n kk sz o):=by rw[ah.du,hp];rfl
   exact⟨_,by simp only[cU.er,exec,bg,BP hb,if_true,ah.dv];rfl,h⟩
  ·rename_i ts y o hp
   have bg:σ.er.ev x.er=.one (.cH (Ty.aI ts y) o):=by rw[ah.du,hp];rfl
   exact⟨_,by simp only[cU.er,exec,bg,ah.dv];rfl,h⟩
  ·cases h
 |cf sz x i=>
  simp only[dY] at h
  split at h
  ·rename_i n s lo len j hp hi
   have bw:=(bi h).1;replace h:=(bi h).2;subst bw
   have hb:=(cB h).1;replace h:=(cB h).2
   rw[eZ] at h
   obtain⟨q,hq,h⟩:=h
   unfold fj at hq
   split at hq
   ·rename_i cV
    injection hq with hq
    subst hq
    have bg:σ.er.ev x.er=.one (.sl n s lo len):=by rw[ah.du,hp];rfl
    have hi':(σ.er.ev i.er).dn=some j:=by rw[ah.du];exact SV.zF hi
    refine⟨_,?_,h⟩
    have Ps:s=s/\0<=j/\j<len/\(σ.er.h n).isSome=true:=⟨rfl,cV.1,cV.2,BP hb⟩
    simp only[cU.er,exec,bg,hi',ah.dv]
    exact if_pos ⟨trivial,Ps.2⟩
   ·cases hq
  ·rename_i ts xs j hp hi
   have bw:=(bi h).1;replace h:=(bi h).2;subst bw
   rw[eZ] at h
   obtain⟨e,he,h⟩:=h
   unfold eo at he
   split at he
   ·rename_i cV
    have bg:σ.er.ev x.er=.one (.c (.list ts.length (List.map (Ty.aI ts) xs))):=by rw[ah.du,hp];rfl
    have hi':(σ.er.ev i.er).dn=some j:=by rw[ah.du];exact SV.zF hi
    have nW:(List.map (Ty.aI ts) xs)[j.toNat]? =some (Ty.aI ts e):=amK (Ty.aI ts) he
    refine⟨_,?_,h⟩
    simp only[cU.er,exec,bg,hi',cV,and_self,if_true,nW,ah.dv]
    rfl
   ·cases he
  ·rename_i n kk aE off s len j hp hi
   obtain⟨t,y,h1,h2⟩:=DG h
   have bg:σ.er.ev x.er=.one (.bE n kk aE off s len):=by rw[ah.du,hp];rfl
   have hi':(σ.er.ev i.er).dn=some j:=by rw[ah.du];exact SV.zF hi
   have kq:cq σ.er.h (.bE n kk aE off s len)=some (t.er y):=h1
   split at h2
   ·rename_i ts ys
    have bw:=(bi h2).1;replace h2:=(bi h2).2;subst bw
    rw[eZ] at h2
    obtain⟨q,hq,h2⟩:=h2
    unfold fj at hq
    split at hq
    ·rename_i cV
     injection hq with hq
     subst hq
     refine⟨_,?_,h2⟩
     simp only[cU.er,exec,bg,hi',kq,Ty.er,ah.dv]
     exact if_pos ⟨trivial,cV.1,by rw[show(List.map (Ty.aI ts) ys).length=aa (α:=Ty.DL ts) ys from List.length_map (Ty.aI ts)];exact cV.2⟩
    ·cases hq
   ·cases h2
  ·cases h
 |ext i x=>
  simp only[dY] at h
  split at h
  ·rename_i xs hp
   split at h
   ·rename_i ag cs hg
    have bg:σ.er.ev x.er=.br (xs.map fun x=>(x.1,x.2.map SC.er)):=by rw[ah.du,hp];rfl
    refine⟨_,?_,h⟩
    simp only[cU.er,exec,bg,List.getElem?_map,hg,Option.map_some,ah.dv,DI]
   ·cases h
  ·cases h
 |pI ag off sz x=>
  simp only[dY] at h
  split at h
  ·rename_i cs hp
   have bg:σ.er.ev x.er=.agg (cs.map SC.er):=by rw[ah.du,hp];rfl
   split at h
   ·rename_i l hl
    exact⟨_,by simp only[cU.er,exec,bg,ud,hl,Option.map_some,ah.dv,DI],h⟩
   ·cases h
  ·cases h
 |pk f bQ x=>
  simp only[dY] at h
  split at h
  ·rename_i n sz lo len hp
   have hb:=(cB h).1;replace h:=(cB h).2
   have bg:σ.er.ev x.er=.one (.sl n sz lo len):=by rw[ah.du,hp];rfl
   refine⟨_,?_,h⟩
   simp only[cU.er,exec,bg,BP hb,if_true,ah.dv]
   rw[show(SV.agg (ub bQ (aS len) (.sl n sz lo len))).er=.agg ((ub bQ (aS len) (.sl n sz lo len)).map SC.er) from rfl,WH]
   rfl
  ·rename_i ts xs hp
   have bg:σ.er.ev x.er=.one (.c (.list ts.length (List.map (α:=Ty.DL ts) (Ty.aI ts) xs))):=by rw[ah.du,hp];rfl
   refine⟨_,?_,h⟩
   simp only[cU.er,exec,bg,ah.dv]
   rw[show(SV.agg (ub bQ (aS (aa (α:=Ty.DL ts) xs)) (.v (.list ts) xs))).er=.agg ((ub bQ (aS (aa (α:=Ty.DL ts) xs)) (.v (.list ts) xs)).map SC.er) from rfl,WH]
   congr 3
   congr 1
   exact congrArg Int.ofNat (List.length_map (as:=(xs:List (Ty.DL ts))) (Ty.aI ts))
  ·rename_i ts hp
   have bg:σ.er.ev x.er=.one (.nil ts.length):=by rw[ah.du,hp];rfl
   refine⟨_,?_,h⟩
   simp only[cU.er,exec,bg,ah.dv]
   rw[show(SV.agg (ub bQ (0:Int) (.nil ts))).er=.agg ((ub bQ (0:Int) (.nil ts)).map SC.er) from rfl,WH]
   rfl
  ·cases h
 |len x=>
  simp only[dY] at h
  split at h
  ·rename_i n sz lo len hp
   have hb:=(cB h).1;replace h:=(cB h).2
   have bg:σ.er.ev x.er=.one (.sl n sz lo len):=by rw[ah.du,hp];rfl
   exact⟨_,by simp only[cU.er,exec,bg,BP hb,if_true,ah.dv];rfl,h⟩
  ·rename_i ts xs hp
   have bg:σ.er.ev x.er=.one (.c (.list ts.length (List.map (Ty.aI ts) xs))):=by rw[ah.du,hp];rfl
   exact⟨_,by simp only[cU.er,exec,bg,ah.dv];exact congrArg (fun q:Nat=>some (σ.er.put d (ak.one (.c (.int .i64 (q:Int)))))) (List.length_map (Ty.aI ts)),h⟩
  ·rename_i ts hp
   have bg:σ.er.ev x.er=.one (.nil ts.length):=by rw[ah.du,hp];rfl
   exact⟨_,by simp only[cU.er,exec,bg,ah.dv];rfl,h⟩
  ·rename_i n kk aE off sz len hp
   obtain⟨t,y,h1,h2⟩:=DG h
   have bg:σ.er.ev x.er=.one (.bE n kk aE off sz len):=by rw[ah.du,hp];rfl
   have kq:cq σ.er.h (.bE n kk aE off sz len)=some (t.er y):=h1
   split at h2
   ·rename_i ts ys
    exact⟨_,by simp only[cU.er,exec,bg,kq,Ty.er,ah.dv];exact congrArg (fun q:Nat=>some (σ.er.put d (ak.one (.c (.int .i64 (q:Int)))))) (List.length_map (Ty.aI ts)),h2⟩
   ·cases h2
  ·cases h
 |append fl ts by_ x y=>
  simp only[dY] at h
  split at h
  ·cases h
  ·rename_i n
   obtain⟨xs,m,σ1,h1,h2⟩:=aru h
   obtain⟨ys,m2,σ2,h3,h4⟩:=arv h2
   rw[eZ] at h4
   obtain⟨_,hf,h4⟩:=h4
   unfold lH at hf
   split at hf
   ·rename_i hb
    split at h4
    ·rename_i g9 e
     have i:=ah.th e
     refine⟨_,?_,h4⟩
     replace hb:(xs.length+ys.length)*by_<=eQ:=hb
     have fo:(SB.row true m2 ts (eY xs ys)).er=ar.row true m2 ts.length (List.map (Ty.aI ts) xs++List.map (Ty.aI ts) ys):=by simp[SB.er,eY]
     simp only[cU.er,exec,ah.du,h1,h3,List.length_map,hb,if_true,<-fo,i,ah.dv]
     rfl
    ·cases h4
   ·cases hf
 |mm mx x y=>
  simp only[dY] at h
  split at h
  ·rename_i kd a kd' b ex ey
   have Zn:σ.er.ev x.er=.one (.c (.int kd a)):=by rw[ah.du,ex];rfl
   have ZC:σ.er.ev y.er=.one (.c (.int kd' b)):=by rw[ah.du,ey];rfl
   split at h
   ·refine⟨_,?_,h⟩
    rw[ah.dv]
    simp only[cU.er,exec,Zn,ZC,if_true]
    by_cases e8:LT.lt (α:=Int) a b
    ·exact(if_pos e8).trans (congrArg (fun q:Int=>some (σ.er.put d (ak.one (.c (.int kd q))))) (if_pos e8:zW a b=b).symm)
    ·exact(if_neg e8).trans (congrArg (fun q:Int=>some (σ.er.put d (ak.one (.c (.int kd q))))) (if_neg e8:zW a b=a).symm)
   ·refine⟨_,?_,h⟩
    rw[ah.dv]
    simp only[cU.er,exec,Zn,ZC,Bool.false_eq_true,if_false]
    by_cases e8:LT.lt (α:=Int) b a
    ·exact(if_pos e8).trans (congrArg (fun q:Int=>some (σ.er.put d (ak.one (.c (.int kd q))))) (if_pos e8:o7 a b=b).symm)
    ·exact(if_neg e8).trans (congrArg (fun q:Int=>some (σ.er.put d (ak.one (.c (.int kd q))))) (if_neg e8:o7 a b=a).symm)
  ·cases h
 |call m f xs=>
  simp only[dY] at h
  obtain⟨σ1,h1,h2⟩:=ado h
  exact⟨σ1,by simp only[cU.er,exec,uI];exact h1,h2⟩
 |copy x y=>
  simp only[dY] at h
  split at h
  ·rename_i n s lo len c hp hq
   split at h
   ·rename_i gr m ts xs hn
    have bw:=(bi h).1;replace h:=(bi h).2;subst bw
    have ht:=(bi h).1;replace h:=(bi h).2
    have hb:=(cB h).1;replace h:=(cB h).2
    simp only[Bool.and_eq_true] at hb
    obtain⟨u,ys,h1,h2⟩:=DG h
    split at h2
    ·rename_i us ys
     split at h2
     ·rename_i zs hz
      rw[eZ] at h2
      obtain⟨au,hc,h2⟩:=h2
      refine⟨_,?_,h2⟩
      have bg:σ.er.ev x.er=.one (.sl n 1 lo len):=by rw[ah.du,hp];rfl
      have d9:σ.er.ev y.er=.one c.er:=by rw[ah.du,hq];rfl
      have sr:Ty.er (.list us) ys=Ty.er (.list ts) zs:=by
       have:=Ty.afJ hz
       exact this
      have kq:cq σ.er.h c.er=some (.list ts.length (List.map (Ty.aI ts) zs)):=by
       have:cq σ.er.h c.er=some (Ty.er (.list us) ys):=h1
       rw[this,sr];rfl
      obtain⟨c1,c2⟩:=YR hc
      have iz:m≠ .aG:=by rintro rfl;exact absurd hb.1 (by simp[Mode.own])
      simp only[cU.er,exec,bg,d9,EG hn,SB.er,kq]
      rw[if_pos ⟨trivial,trivial,ht,ht,iz,Ao ts xs hb.2,Ao ts zs hb.2,by rw[List.length_map];exact c1⟩]
      rw[ah.dv,ah.pF]
      simp only[SB.er,c2,ht]
      rw[show List.map (Ty.aI ts) (List.take (α:=Ty.DL ts) len zs)=List.take len (List.map (Ty.aI ts) zs) from List.map_take,show(List.map (Ty.aI ts) zs).length=aa (α:=Ty.DL ts) zs from List.length_map _]
      rfl
     ·cases h2
    ·cases h2
   ·cases h
  ·cases h
 |lE t z x=>
  simp only[dY] at h
  split at h
  ·rename_i n s lo len hp
   split at h
   ·rename_i gr m ts xs hn
    have bw:=(bi h).1;replace h:=(bi h).2;subst bw
    have hb:=(cB h).1;replace h:=(cB h).2
    simp only[Bool.and_eq_true] at hb
    split at h
    ·rename_i e he
     rw[eZ] at h
     obtain⟨au,hc,h⟩:=h
     refine⟨_,?_,h⟩
     have bg:σ.er.ev x.er=.one (.sl n 1 lo len):=by rw[ah.du,hp];rfl
     have nU:Ty.aI ts e=[t.er z]:=xx he
     have hlen:ts.length=1:=by
      have:=congrArg List.length nU
      rw[Ty.EE] at this
      exact this
     have tA:Ty.fK ts=true:=by
      have:=Ty.Lp ts e
      rw[nU] at this
      simp only[Am.fK,List.all_cons,List.all_nil,Bool.and_true,Ty.xO,hb.2] at this
      exact this.symm
     obtain⟨c1,c2⟩:=YR hc
     have iz:m≠ .aG:=by rintro rfl;exact absurd hb.1 (by simp[Mode.own])
     simp only[cU.er,exec,bg,EG hn,SB.er]
     rw[if_pos ⟨trivial,hlen,by rw[Ty.xO];exact hb.2,iz,Ao ts xs tA,by rw[List.length_map];exact c1⟩]
     rw[ah.dv,ah.pF]
     simp only[SB.er,c2,hlen,eU,List.map_replicate,nU]
     rfl
    ·cases h
   ·cases h
  ·cases h
 |mV f xs=>
  simp only[dY] at h
  obtain⟨v,h1,h2⟩:=arF h
  refine⟨_,?_,h2⟩
  simp only[cU.er,exec,uI]
  rw[h1]
  simp only[ah.dv]
 |qe f xs=>
  simp only[dY] at h
  split at h
  ·rename_i cs hc
   obtain⟨h1,h2⟩:=adM hc
   refine⟨_,?_,h⟩
   simp only[cU.er,exec,uI]
   split
   ·rename_i cs' e
    have e2:some cs'=some (cs.map SC.er):=e.symm.trans h1
    injection e2 with e2
    subst e2
    rw[if_pos h2,ah.dv]
    simp only[SV.er,SC.er,SC.EH]
   ·rename_i e
    have e2:none=some (cs.map SC.er):=e.symm.trans h1
    cases e2
  ·cases h
 |fU m f xs=>
  simp only[dY] at h
  obtain⟨σ1,h1,h2⟩:=arG h
  exact⟨σ1,by simp only[cU.er,exec,uI];exact h1,h2⟩
 |dT f xs=>
  simp only[dY] at h
  obtain⟨σ1,h1,h2⟩:=arE h
  exact⟨σ1,by simp only[cU.er,exec,uI];exact h1,h2⟩
 |mz f xs=>
  simp only[dY] at h
  obtain⟨v,h1,h2⟩:=arH h
  exact⟨σ.put d v,by simp only[cU.er,exec,uI,h1,ah.dv],h2⟩
 |mX f xs=>
  simp only[dY] at h
  obtain⟨v,h1,h2⟩:=arI h
  exact⟨σ.put d v,by simp only[cU.er,exec,uI,h1,ah.dv],h2⟩
 |mW m x xs=>
  simp only[dY] at h
  split at h
  ·rename_i f cF hp
   have bg:σ.er.ev x.er=.one (.fn f (cF.map SC.er)):=by rw[ah.du,hp];simp only[SV.er,SC.er,SC.EH]
   obtain⟨σ1,h1,h2⟩:=ado h
   refine⟨σ1,?_,h2⟩
   simp only[cU.er,exec,bg,uI]
   rw[List.map_append] at h1
   simp only[List.map_map] at h1⊢
   exact h1
  ·cases h
structure fv where
 dst:Option Nat
 op:cU
 guard:Option (Nat×Bool)
def fv.er (o:fv):bV:=⟨o.dst,o.op.er,o.guard⟩
def ah.lit (σ:ah) (n:Nat) (b:Bool):ah:={σ with env:=aA σ.env n (.one (.v .bool b))}
theorem ah.EF {σ:ah} {n:Nat} {b:Bool} (h:σ.env n=.one (.v .bool b)):(σ.lit n b).er=σ.er:=by
 have:aA σ.env n (.one (.v .bool b))=σ.env:=by
  funext s
  simp only[jr]
  split
  ·rename_i hs;subst hs;exact h.symm
  ·rfl
 simp only[ah.lit,this]
def rB (T:List az):List fv->ah->(ah->Option ρ)->Option ρ
 |[],σ,k=>k σ
 |o::os,σ,k=>match o.guard with
  |none=>dY T o.dst o.op σ fun σ1=>rB T os σ1 k
  |some (s,lz)=>match σ.env s with
   |.one (.v .bool b)=>ax b
    (match lz with
     |true=>dY T o.dst o.op (σ.lit s true) fun σ1=>rB T os σ1 k
     |false=>rB T os ((σ.lit s true).put o.dst (.br [])) k)
    (match lz with
     |true=>rB T os ((σ.lit s false).put o.dst (.br [])) k
     |false=>dY T o.dst o.op (σ.lit s false) fun σ1=>rB T os σ1 k)
   |.br []=>rB T os (σ.put o.dst (.br [])) k
   |_=>none
theorem V8 {T:List az}:∀{os:List fv} {σ:ah} {k:ah->Option ρ} {r:ρ},rB T os σ k=some r->
  ∃σ1:ah,kO (cX T) (os.map fv.er) σ.er=some σ1.er/\k σ1=some r
 |[],σ,k,r,h=>⟨σ,rfl,h⟩
 |o::os,σ,k,r,h=>by
  obtain⟨d,op,g⟩:=o
  have run:∀kg:ah,kg.er=σ.er->ed (cX T) (fv.er ⟨d,op,g⟩) σ.er=exec (cX T) d op.er σ.er->dY T d op kg (fun σ1=>rB T os σ1 k)=some r->
    ∃σ1:ah,kO (cX T) ((⟨d,op,g⟩::os).map fv.er) σ.er=some σ1.er/\k σ1=some r:=by
   intro kg h0 he hs
   obtain⟨σ1,h1,h2⟩:=adt hs
   obtain⟨σ2,h3,h4⟩:=V8 h2
   rw[h0] at h1
   exact⟨σ2,by simp only[List.map_cons,kO,he,h1,h3],h4⟩
  have As:∀kg:ah,kg.er=σ.er->ed (cX T) (fv.er ⟨d,op,g⟩) σ.er=some (σ.er.put d (.br []))->rB T os (kg.put d (.br [])) k=some r->
    ∃σ1:ah,kO (cX T) ((⟨d,op,g⟩::os).map fv.er) σ.er=some σ1.er/\k σ1=some r:=by
   intro kg h0 he hs
   obtain⟨σ2,h3,h4⟩:=V8 hs
   rw[ah.dv,h0] at h3
   exact⟨σ2,by simp only[List.map_cons,kO,he];exact h3,h4⟩
  cases g with
  |none=>exact run σ rfl rfl h
  |some g=>
   obtain⟨s,lz⟩:=g
   simp only[rB] at h
   split at h
   ·rename_i b hs
    have kx:σ.er.env s=.one (.c (.bool b)):=by show(σ.env s).er=_;rw[hs];rfl
    cases hb:(b:Bool) with
    |true=>
     have h0:(σ.lit s true).er=σ.er:=ah.EF (by rw[hs,hb])
     rw[hb] at h
     simp only[Ji] at h
     cases lz with
     |true=>exact run _ h0 (by simp[ed,fv.er,kx,hb]) h
     |false=>exact As _ h0 (by simp[ed,fv.er,kx,hb]) h
    |false=>
     have h0:(σ.lit s false).er=σ.er:=ah.EF (by rw[hs,hb])
     rw[hb] at h
     simp only[Es] at h
     cases lz with
     |true=>exact As _ h0 (by simp[ed,fv.er,kx,hb]) h
     |false=>exact run _ h0 (by simp[ed,fv.er,kx,hb]) h
   ·rename_i hs
    have kx:σ.er.env s=.br []:=by show(σ.env s).er=_;rw[hs];rfl
    exact As σ rfl (by simp[ed,fv.er,kx]) h
   ·cases h
def rC (T:List az) (ps:List (Nat×Nat)):List fv->List (Option FP)->ah->(ah->Option ρ)->Option ρ
 |[],c6,σ,k=>fi (xE ps c6) (k σ)
 |o::os,c6,σ,k=>match o.guard with
  |none=>dY T o.dst o.op σ fun σ1=>rC T ps os (c6++[o.er.fp σ.er]) σ1 k
  |some (s,lz)=>match σ.env s with
   |.one (.v .bool b)=>ax b
    (match lz with
     |true=>dY T o.dst o.op (σ.lit s true) fun σ1=>rC T ps os (c6++[o.er.fp (σ.lit s true).er]) σ1 k
     |false=>rC T ps os (c6++[o.er.fp (σ.lit s true).er]) ((σ.lit s true).put o.dst (.br [])) k)
    (match lz with
     |true=>rC T ps os (c6++[o.er.fp (σ.lit s false).er]) ((σ.lit s false).put o.dst (.br [])) k
     |false=>dY T o.dst o.op (σ.lit s false) fun σ1=>rC T ps os (c6++[o.er.fp (σ.lit s false).er]) σ1 k)
   |.br []=>rC T ps os (c6++[o.er.fp σ.er]) (σ.put o.dst (.br [])) k
   |_=>none
theorem V7 {T:List az} {ps:List (Nat×Nat)}:∀{os:List fv} {c6:List (Option FP)} {σ:ah} {k:ah->Option ρ} {r:ρ},rC T ps os c6 σ k=some r->
  ∃(σ1:ah) (fs:List (Option FP)),m4 (cX T) (os.map fv.er) c6 σ.er=some (fs,σ1.er)/\xE ps fs=true/\k σ1=some r
 |[],c6,σ,k,r,h=>⟨σ,c6,rfl,(cB h).1,(cB h).2⟩
 |o::os,c6,σ,k,r,h=>by
  obtain⟨d,op,g⟩:=o
  have run:∀kg:ah,kg.er=σ.er->ed (cX T) (fv.er ⟨d,op,g⟩) σ.er=exec (cX T) d op.er σ.er->dY T d op kg (fun σ1=>rC T ps os (c6++[(fv.er ⟨d,op,g⟩).fp kg.er]) σ1 k)=some r->
    ∃(σ1:ah) (fs:List (Option FP)),m4 (cX T) ((⟨d,op,g⟩::os).map fv.er) c6 σ.er=some (fs,σ1.er)/\xE ps fs=true/\k σ1=some r:=by
   intro kg h0 he hs
   obtain⟨σ1,h1,h2⟩:=adt hs
   obtain⟨σ2,fs,h3,h4⟩:=V7 h2
   rw[h0] at h1 h3
   exact⟨σ2,fs,by simp only[List.map_cons,m4,he,h1,h3],h4⟩
  have As:∀kg:ah,kg.er=σ.er->ed (cX T) (fv.er ⟨d,op,g⟩) σ.er=some (σ.er.put d (.br []))->rC T ps os (c6++[(fv.er ⟨d,op,g⟩).fp kg.er]) (kg.put d (.br [])) k=some r->
    ∃(σ1:ah) (fs:List (Option FP)),m4 (cX T) ((⟨d,op,g⟩::os).map fv.er) c6 σ.er=some (fs,σ1.er)/\xE ps fs=true/\k σ1=some r:=by
   intro kg h0 he hs
   obtain⟨σ2,fs,h3,h4⟩:=V7 hs
   rw[ah.dv,h0] at h3
   exact⟨σ2,fs,by simp only[List.map_cons,m4,he];exact h3,h4⟩
  cases g with
  |none=>exact run σ rfl rfl h
  |some g=>
   obtain⟨s,lz⟩:=g
   simp only[rC] at h
   split at h
   ·rename_i b hs
    have kx:σ.er.env s=.one (.c (.bool b)):=by show(σ.env s).er=_;rw[hs];rfl
    cases hb:(b:Bool) with
    |true=>
     have h0:(σ.lit s true).er=σ.er:=ah.EF (by rw[hs,hb])
     rw[hb] at h
     simp only[Ji] at h
     cases lz with
     |true=>exact run _ h0 (by simp[ed,fv.er,kx,hb]) h
     |false=>exact As _ h0 (by simp[ed,fv.er,kx,hb]) h
    |false=>
     have h0:(σ.lit s false).er=σ.er:=ah.EF (by rw[hs,hb])
     rw[hb] at h
     simp only[Es] at h
     cases lz with
     |true=>exact As _ h0 (by simp[ed,fv.er,kx,hb]) h
     |false=>exact run _ h0 (by simp[ed,fv.er,kx,hb]) h
   ·rename_i hs
    have kx:σ.er.env s=.br []:=by show(σ.env s).er=_;rw[hs];rfl
    exact As σ rfl (by simp[ed,fv.er,kx]) h
   ·cases h
end
end Go.Am
