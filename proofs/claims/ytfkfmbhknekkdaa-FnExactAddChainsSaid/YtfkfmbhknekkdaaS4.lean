/- S4: operations of the typed evaluator. No condition. -/
import Derived.Test.YtfkfmbhknekkdaaS3
set_option linter.unusedVariables false
namespace Go.Am
theorem agK {α β:Type} (f:α->β) {l:List α} {i:Nat} {e:α} (h:l[i]? =some e):(l.map f)[i]? =some (f e):=by rw[List.getElem?_map,h];rfl
section
variable {ρ:Type}
def Gy:Bool->Mode
 |true=>.aj
 |false=>.aF
theorem aiq (o:Bool):(if o=true then Mode.aj else .aF)=Gy o:=by cases o<;>rfl
def Gw (σ:ab) (d:Int) (o:Option bZ):Option Int:=
 match o with
 |none=>some d
 |some q=>(σ.ev q).cZ
theorem Gx {σ:ab} {d l:Int} {o:Option bZ} (h:Gw σ d o=some l):(match o.map bZ.er with|none=>some d|some q=>(σ.er.ev q).cZ)=some l:=by
 cases o with
 |none=>exact h
 |some q=>simp only[Option.map_some,ab.cY];exact SV.wM h
def rE (bw:Bool) (n:Int) (c:SC):List SC:=match bw with
 |true=>[.v (.int .i64) n,.v (.int .i64) (1:Int),c]
 |false=>[.v (.int .i64) (1:Int),.v (.int .i64) n,c]
theorem P0 (bw:Bool) (n:Int) (c:SC):(rE bw n c).map SC.er=jJ bw n c.er:=by cases bw<;>rfl
def xa:List SC->Option (List TD)
 |[]=>some []
 |.v t x::l=>match t.dX with
  |true=>match xa l with
   |some ds=>some (⟨t,x⟩::ds)
   |none=>none
  |false=>none
 |_::_=>none
theorem Yl:∀{vs:List SC} {ds:List TD},xa vs=some ds->jA (vs.map SC.er)=some (cA ds)
 |[],ds,h=>by simp only[xa] at h;injection h with h;subst h;rfl
 |c::vs,ds,h=>by
  cases c with
  |v t x=>
   simp only[xa] at h
   split at h
   ·rename_i hs
    split at h
    ·rename_i l hl
     injection h with h
     subst h
     simp only[List.map_cons,SC.er,jA,Ty.uV,hs,if_true,Yl hl,cA,Option.map_some]
    ·cases h
   ·cases h
  |_=>simp[xa] at h
def P2 (us:List Ty) (e:Ty.DL us) (off s i:Nat) (vs:List SC) (k:Ty.DL us->Option ρ):Option ρ:=
 match(Ty.f0 us e)[off]? with
 |some ⟨.list ts,ys⟩=>ci ts.length s (ci vs.length s (dQ (Ty.eW ts) ((eZ (α:=Ty.DL ts) ys i).ah fun _=>match xa vs with
  |some ds=>match oy ts ds with
   |some el=>match GX us e off ⟨.list ts,cM (α:=Ty.DL ts) ys i el⟩ with
    |some e'=>k e'
    |none=>none
   |none=>none
  |none=>none)))
 |_=>none
theorem akt {us ts:List Ty} {xs:List (Ty.DL us)} {kk off i:Nat} {e e':Ty.DL us} {vs:List SC} {ds:List TD} {el y0:Ty.DL ts} (ys:List (Ty.DL ts)) (he:xs[kk]? =some e) (hd:(Ty.f0 us e)[off]? =some ⟨.list ts,ys⟩)
  (od:vs.length=ts.length) (hs:Ty.eW ts=true) (hy:ys[i]? =some y0) (jZ:xa vs=some ds) (ly:oy ts ds=some el) (wC:GX us e off ⟨.list ts,cM ys i el⟩=some e'):
  s9 (List.map (Ty.az us) xs) kk off ts.length i (vs.map SC.er)=some (List.map (Ty.az us) (cM xs kk e')):=by
 have lz:(Ty.az us e)[off]? =some (.list ts.length (List.map (Ty.az ts) ys)):=Ji hd
 have hx:(List.map (Ty.az us) xs)[kk]? =some (Ty.az us e):=by rw[List.getElem?_map,he];rfl
 have hi:i<(List.map (Ty.az ts) ys).length:=by rw[List.length_map];exact(List.getElem?_eq_some_iff.1 hy).1
 have Un:Ty.az us e'=(Ty.az us e).set off (.list ts.length (List.map (Ty.az ts) (cM ys i el))):=Yo wC
 unfold s9
 rw[hx,Option.bind_some,lz]
 simp only
 rw[if_pos ⟨trivial,by simpa using od,hi,w9 ts ys hs⟩,Yl jZ,List.getD_eq_getElem?_getD,hx]
 simp only[Option.map_some,Option.getD_some]
 unfold cM at Un⊢
 rw[List.map_set,Un,List.map_set,uA ly]
theorem akP {us:List Ty} {xs:List (Ty.DL us)} {kk:Nat} {e:Ty.DL us} {off s i:Nat} {vs:List SC} {k:Ty.DL us->Option ρ} {r:ρ} (he:xs[kk]? =some e) (h:P2 us e off s i vs k=some r):
  ∃e',s9 (List.map (Ty.az us) xs) kk off s i (vs.map SC.er)=some (List.map (Ty.az us) (cM xs kk e'))/\k e'=some r:=by
 unfold P2 at h
 split at h
 ·rename_i ts ys hd
  have tQ:=(aK h).1;replace h:=(aK h).2
  have pE:=(aK h).1;replace h:=(aK h).2
  have hs:=(bQ h).1;replace h:=(bQ h).2
  rw[dF] at h
  obtain⟨y0,hy,h⟩:=h
  split at h
  ·rename_i ds jZ
   split at h
   ·rename_i el ly
    split at h
    ·rename_i e' wC
     subst tQ
     exact⟨e',akt ys he hd pE hs hy jZ ly wC,h⟩
    ·cases h
   ·cases h
  ·cases h
 ·cases h
def dw (T:List ar) (d:Option Nat) (op:cj) (σ:ab) (k:ab->Option ρ):Option ρ:=
 match op with
 |.mv x=>k (σ.put d (σ.ev x))
 |.pick c x y=>match σ.ev c with
  |.one (.v .bool b)=>match σ.ev x,σ.ev y with
   |.one (.v t x'),.one (.v u y')=>match Ty.cast u t y' with
    |some z=>k (σ.put d (.one (.v t (aH b x' z))))
    |none=>aH b (k (σ.put d (σ.ev x))) (k (σ.put d (σ.ev y)))
   |_,_=>aH b (k (σ.put d (σ.ev x))) (k (σ.put d (σ.ev y)))
  |_=>none
 |.alloc zs=>match d with
  |some n=>match σ.ins n (.box zs) with
   |some σ1=>k (σ1.put d (.one (.ptr n 0 0 0)))
   |none=>none
  |none=>none
 |.box sz x=>match d,(σ.ev x).cells? with
  |some n,some (_,cs)=>ci cs.length sz (match σ.ins n (.box cs) with
   |some σ1=>k (σ1.put d (.one (.ptr n 0 0 0)))
   |none=>none)
  |_,_=>none
 |.build zs parts=>match C2 σ.ev zs parts with
  |some cs=>k (σ.put d (.agg cs))
  |none=>none
 |.gA ts parts=>match d with
  |some n=>Ht ts σ (parts.map σ.ev) fun es o σ1=>match σ1.ins n (.row true (Gy o) ts es) with
   |some σ2=>k (σ2.put d (.one (.sl n ts.length 0 es.length)))
   |none=>none
  |none=>none
 |.load ag sz x=>match σ.ev x with
  |.one p=>CV σ.h p sz fun cs=>k (σ.put d (xr ag cs))
  |_=>none
 |.mC ag sz x=>match σ.ev x with
  |.one p=>PI σ p fun σ1=>CV σ1.h p sz fun cs=>k (σ1.put d (xr ag cs))
  |_=>none
 |.store sz x v=>match σ.ev x,(σ.ev v).cells? with
  |.one (.ptr n kk au off),some (_,vs)=>ci vs.length sz (match σ.h n with
   |some (.box cs)=>ci kk 0 (dQ (Nat.ble (off+sz) cs.length) (k (σ.df n (.box (bY cs off vs)))))
   |some (.row gr m ts xs)=>ci au ts.length ((eZ xs kk).ah fun e=>P3 σ n gr m ts xs kk off e vs k)
   |none=>none)
  |.one (.cH n kk au off s i),some (_,vs)=>ci vs.length sz (match σ.h n with
   |some (.row gr .live us xs)=>ci au us.length ((eZ xs kk).ah fun e=>P2 us e off s i vs fun e'=>k (σ.df n (.row gr .live us (cM xs kk e'))))
   |_=>none)
  |_,_=>none
 |.mG x=>match σ.ev x with
  |.one (.ptr n kk sz off)=>dQ (σ.h n).isSome (k (σ.put d (.one (.ptr n kk sz off))))
  |.one (.bV ts x off)=>k (σ.put d (.one (.bV ts x off)))
  |.one (.bD ts x off j n s len)=>k (σ.put d (.one (.bD ts x off j n s len)))
  |_=>none
 |.bin op x y=>IP op (σ.ev x) (σ.ev y) fun t z=>k (σ.put d (.one (.v t z)))
 |.kv op x y=>IM op (σ.ev x) (σ.ev y) fun t z=>k (σ.put d (.one (.v t z)))
 |.un op x=>Qs op (σ.ev x) fun t z=>k (σ.put d (.one (.v t z)))
 |.conv kd x=>match σ.ev x with
  |.one (.v (.int _) n)=>k (σ.put d (.one (.v (.int kd) (aaT kd n))))
  |_=>none
 |.kg m ts by_ z l c=>match d,(σ.ev l).cZ,(σ.ev c).cZ with
  |some n,some a,some b=>(pV a b by_).ah fun len=>match σ.ins n (.row true m ts (fz len z)) with
   |some σ1=>k (σ1.put d (.one (.sl n ts.length 0 len)))
   |none=>none
  |_,_,_=>none
 |.slice sz x lo hi=>
  match σ.ev x,Gw σ 0 lo with
  |.one (.sl n s l0 len),some l=>
   match Gw σ (be len) hi with
   |some h=>ci s sz (dQ (σ.h n).isSome ((u4 l h len).ah fun p=>k (σ.put d (.one (.sl n s (bW l0 p.1) p.2)))))
   |none=>none
  |.one (.v (.list ts) xs),some l=>
   match Gw σ (be (aa (α:=Ty.DL ts) xs)) hi with
   |some h=>ci ts.length sz ((u4 l h (aa (α:=Ty.DL ts) xs)).ah fun p=>k (σ.put d (.one (.v (.list ts) (G8 (α:=Ty.DL ts) xs p.1 p.2)))))
   |none=>none
  |_,_=>none
 |.tail sz x lo=>match d,σ.ev x,(σ.ev lo).cZ with
  |some n,.one (.sl a s l0 len),some l=>match σ.h a with
   |some (.row true m ts xs)=>ci s ts.length (ci ts.length sz (ci l0 0 ((aI l0 len (aa xs)).ah fun _=>(u4 l (be (aa xs)) (aa xs)).ah fun p=>
    match(σ.del a).ins n (.row true m ts (G8 xs p.1 p.2)) with
    |some σ1=>k (σ1.put d (.one (.sl n sz 0 p.2)))
    |none=>none)))
   |_=>none
  |_,_,_=>none
 |.aB off x=>match σ.ev x with
  |.one (.ptr n kk sz o)=>dQ (σ.h n).isSome (k (σ.put d (.one (.ptr n kk sz (o+off)))))
  |.one (.bV ts x o)=>k (σ.put d (.one (.bV ts x (o+off))))
  |.one (.bD ts x o j n s len)=>k (σ.put d (.one (.bD ts x (o+off) j n s len)))
  |_=>none
 |.cR sz x i=>match σ.ev x,(σ.ev i).cZ with
  |.one (.sl n s lo len),some j=>ci s sz (dQ (σ.h n).isSome ((iG j len).ah fun q=>k (σ.put d (.one (.ptr n (bW lo q) s 0)))))
  |.one (.v (.list ts) xs),some j=>ci ts.length sz ((dP (α:=Ty.DL ts) xs j).ah fun e=>k (σ.put d (.one (.bV ts e 0))))
  |.one (.bj n kk au off s len),some j=>ve σ.h (.bj n kk au off s len) fun t x=>match t,x with
   |.list ts,ys=>ci ts.length sz ((iG j (aa (α:=Ty.DL ts) ys)).ah fun q=>k (σ.put d (.one (.cH n kk au off sz q))))
   |_,_=>none
  |_,_=>none
 |.ext i x=>match σ.ev x with
  |.aY xs=>match xs[i]? with
   |some (ag,cs)=>k (σ.put d (xr ag cs))
   |none=>none
  |_=>none
 |.m7 ag off sz x=>match σ.ev x with
  |.agg cs=>match sub cs off sz with
   |some l=>k (σ.put d (xr ag l))
   |none=>none
  |_=>none
 |.mK f bw x=>match σ.ev x with
  |.one (.sl n sz lo len)=>dQ (σ.h n).isSome (k (σ.put d (.agg (rE bw (be len) (.sl n sz lo len)))))
  |.one (.v (.list ts) xs)=>k (σ.put d (.agg (rE bw (be (aa (α:=Ty.DL ts) xs)) (.v (.list ts) xs))))
  |.one (.nil ts)=>k (σ.put d (.agg (rE bw (0:Int) (.nil ts))))
  |_=>none
 |.len x=>match σ.ev x with
  |.one (.sl n sz lo len)=>dQ (σ.h n).isSome (k (σ.put d (.one (.v (.int .i64) (be len)))))
  |.one (.v (.list ts) xs)=>k (σ.put d (.one (.v (.int .i64) (be (aa (α:=Ty.DL ts) xs)))))
  |.one (.nil ts)=>k (σ.put d (.one (.v (.int .i64) (0:Int))))
  |.one (.bj n kk au off sz len)=>ve σ.h (.bj n kk au off sz len) fun t x=>match t,x with
   |.list ts,ys=>k (σ.put d (.one (.v (.int .i64) (be (aa (α:=Ty.DL ts) ys)))))
   |_,_=>none
  |_=>none
 |.append fl ts by_ x y=>match d with
  |none=>none
  |some n=>OK σ ts (σ.ev x) fun xs m σ1=>OL fl σ1 ts m (σ.ev y) fun ys m2 σ2=>
   (tO (bW (aa xs) (aa ys)) by_).ah fun _=>match σ2.ins n (.row true m2 ts (g8 xs ys)) with
    |some fm=>k (fm.put d (.one (.sl n ts.length 0 (bW (aa xs) (aa ys)))))
    |none=>none
 |.mm mx x y=>match σ.ev x,σ.ev y with
  |.one (.v (.int kd) a),.one (.v (.int Wc) b)=>match mx with
   |true=>k (σ.put d (.one (.v (.int kd) (MF a b))))
   |false=>k (σ.put d (.one (.v (.int kd) (zz a b))))
  |_,_=>none
 |.call m f xs=>GW T m d f (xs.map σ.ev) σ k
 |.kw f xs=>Pw T d f (xs.map σ.ev) σ k
 |.copy x y=>match σ.ev x,σ.ev y with
  |.one (.sl n s lo len),.one c=>match σ.h n with
   |some (.row gr m ts xs)=>ci s 1 (ci ts.length 1 (dQ (m.own&&Ty.eW ts) (ve σ.h c fun u ys=>match u,ys with
    |.list us,ys=>match Ty.cast (.list us) (.list ts) ys with
     |some zs=>(EH (α:=Ty.DL ts) xs lo len (List.take (α:=Ty.DL ts) len zs)).ah fun ao=>k ((σ.df n (.row gr m ts ao)).put d (.one (.v (.int .i64) (be (Nat.min (aa (α:=Ty.DL ts) zs) len)))))
     |none=>none
    |_,_=>none)))
   |_=>none
  |_,_=>none
 |.jz t z x=>match σ.ev x with
  |.one (.sl n s lo len)=>match σ.h n with
   |some (.row gr m ts xs)=>ci s 1 (dQ (m.own&&t.dX) (match oy ts [⟨t,z⟩] with
    |some e=>(EH (α:=Ty.DL ts) xs lo len (fz len e)).ah fun ao=>k ((σ.df n (.row gr m ts ao)).put d (.aY []))
    |none=>none))
   |_=>none
  |_=>none
 |.mF f xs=>match xj (xs.map σ.ev) with
  |some cs=>k (σ.put d (.one (.fn f cs)))
  |none=>none
 |.ky m x xs=>match σ.ev x with
  |.one (.fn f bM)=>GW T m d f (xs.map σ.ev++bM.map .one) σ k
  |_=>none
 |.iZ m f xs=>Px T m d f (xs.map σ.ev) σ k
 |.iu f xs=>Pv T d f (xs.map σ.ev) σ k
 |.kA f xs=>PD T d f (xs.map σ.ev) σ k
 |.kx f xs=>Pz T d f (xs.map σ.ev) σ k
 |.kB m f xs=>PE T m d f (xs.map σ.ev) σ k
 |.kz m f x xs=>match σ.ev x with
  |.one (.fn g bM)=>ci g f (Py T m d f (xs.map σ.ev++bM.map .one) σ k)
  |_=>none
theorem Bg {σ:ab} {n:Nat} {b:SB} (h:σ.h n=some b):σ.er.h n=some b.er:=by simp[ab.er,cB,h]
theorem yu {σ:ab} {n:Nat} (h:(σ.h n).isSome=true):(σ.er.h n).isSome=true:=by
 simp only[ab.er,SD,h]
theorem Qx (t:Ty) (x:t.D):(SV.one (.v t x)).er=.one (.c (t.er x)):=rfl
theorem R8 {ts:List Ty} {xs ao ys:List (Ty.DL ts)} {lo len:Nat} (h:EH xs lo len ys=some ao):lo+len<=xs.length/\List.map (Ty.az ts) ao=bY (List.map (Ty.az ts) xs) lo (List.map (Ty.az ts) ys):=by
 unfold EH at h
 split at h
 ·rename_i hc
  injection h with h
  subst h
  exact⟨hc,z6 (Ty.az ts) xs ys lo⟩
 ·cases h
theorem Ty.aaw {t u:Ty} {x:t.D} {y:u.D} (h:Ty.cast t u x=some y):t.er x=u.er y:=by
 unfold Ty.cast at h
 split at h
 ·rename_i he
  have:=Ty.beq_eq he
  subst this
  injection h with h
  rw[<-h]
 ·cases h
theorem Yp {T:List ar} {d:Option Nat} {op:cj} {σ:ab} {k:ab->Option ρ} {r:ρ} (h:dw T d op σ k=some r):
  ∃σ1:ab,exec (cb T) d op.er σ.er=some σ1.er/\k σ1=some r:=by
 cases op with
 |mv x=>exact⟨_,by simp only[cj.er,exec,ab.cW,ab.cY],h⟩
 |pick c x y=>
  simp only[dw] at h
  split at h
  ·rename_i b hc
   have cN:σ.er.ev c.er=.one (.c (.bool b)):=by rw[ab.cY,hc];rfl
   have bU:∀σ1:ab,σ1.er=σ.er.put d (cond b (σ.ev x).er (σ.ev y).er)->exec (cb T) d (cj.er (.pick c x y)) σ.er=some σ1.er:=by
    intro σ1 e
    simp only[cj.er,exec,cN,ab.cY,e]
    cases b<;>rfl
   have gen:aH b (k (σ.put d (σ.ev x))) (k (σ.put d (σ.ev y)))=some r->∃σ1:ab,exec (cb T) d (cj.er (.pick c x y)) σ.er=some σ1.er/\k σ1=some r:=by
    intro h
    cases hb:(b:Bool) with
    |true=>rw[hb] at h;exact⟨_,bU _ (by rw[ab.cW,hb];rfl),h⟩
    |false=>rw[hb] at h;exact⟨_,bU _ (by rw[ab.cW,hb];rfl),h⟩
   split at h
   ·rename_i t x' u y' ex ey
    split at h
    ·rename_i z hz
     refine⟨_,bU _ ?_,h⟩
     rw[ab.cW,ex,ey,Qx,Qx,Qx,Ty.Rv hz]
     cases (b:Bool)<;>rfl
    ·exact gen h
   ·exact gen h
  ·cases h
 |alloc zs=>
  simp only[dw] at h
  split at h
  ·rename_i n
   split at h
   ·rename_i σ1 e
    have:=ab.qF e
    exact⟨_,by simp only[cj.er,exec];rw[show ak.box (zs.map SC.er)=(SB.box zs).er from rfl,this,ab.cW];rfl,h⟩
   ·cases h
  ·cases h
 |box sz x=>
  simp only[dw] at h
  split at h
  ·rename_i n b cs hc
   have aS:=(aK h).1;replace h:=(aK h).2;subst aS
   split at h
   ·rename_i σ1 e
    have:=ab.qF e
    refine⟨_,?_,h⟩
    simp only[cj.er,exec,ab.cY,SV.jT hc,List.length_map,if_true]
    rw[show ak.box (cs.map SC.er)=(SB.box cs).er from rfl,this,ab.cW];rfl
   ·cases h
  ·cases h
 |build zs parts=>
  simp only[dw] at h
  split at h
  ·rename_i cs hc
   exact⟨_,by simp only[cj.er,exec,YZ hc,ab.cW];rfl,h⟩
  ·cases h
 |gA ts parts=>
  simp only[dw] at h
  split at h
  ·rename_i n
   obtain⟨es,o,σ1,h1,h2⟩:=Y0 h
   split at h2
   ·rename_i σ2 e
    have i:=ab.qF e
    refine⟨_,?_,h2⟩
    simp only[cj.er,exec,pq,h1,ab.cW]
    have:(SB.row true (Gy o) ts es).er=ak.row true (Gy o) ts.length (List.map (Ty.az ts) es):=rfl
    rw[aiq,<-this,i,List.length_map]
    rfl
   ·cases h2
  ·cases h
 |load ag sz x=>
  simp only[dw] at h
  split at h
  ·rename_i p hp
   obtain⟨l,h1,h2⟩:=PL h
   have aX:σ.er.ev x.er=.one p.er:=by rw[ab.cY,hp];rfl
   have iH:loadAt σ.er.h p.er sz=some (l.map SC.er):=h1
   exact⟨_,by simp only[cj.er,exec,aX,iH,ab.cW,Ai],h2⟩
  ·cases h
 |mC ag sz x=>
  simp only[dw] at h
  split at h
  ·rename_i p hp
   obtain⟨σ1,h0,h⟩:=aku h
   obtain⟨l,h1,h2⟩:=PL h
   have aX:σ.er.ev x.er=.one p.er:=by rw[ab.cY,hp];rfl
   have iH:loadAt σ1.er.h p.er sz=some (l.map SC.er):=h1
   exact⟨_,by simp only[cj.er,exec,aX,h0,iH,ab.cW,Ai],h2⟩
  ·cases h
 |store sz x v=>
  simp only[dw] at h
  split at h
  ·rename_i n kk au off b vs hp hc
   have aS:=(aK h).1;replace h:=(aK h).2;subst aS
   have aX:σ.er.ev x.er=.one (.ptr n kk au off):=by rw[ab.cY,hp];rfl
   have cN:(σ.er.ev v.er).cells?=some (b,vs.map SC.er):=by rw[ab.cY];exact SV.jT hc
   split at h
   ·rename_i cs hn
    have aS:=(aK h).1;replace h:=(aK h).2;subst aS
    have hb:=(bQ h).1;replace h:=(bQ h).2
    have eU:=Nat.le_of_ble_eq_true hb
    refine⟨_,?_,h⟩
    simp only[cj.er,exec,aX,cN,List.length_map,if_true,Bg hn,SB.er,eU,and_self,ab.mY,<-z6]
   ·rename_i gr m ts xs hn
    have aS:=(aK h).1;replace h:=(aK h).2;subst aS
    rw[dF] at h
    obtain⟨e,he,h⟩:=h
    replace he:xs[kk]? =some e:=he
    obtain⟨σ1,s1,s2⟩:=akQ h
    refine⟨σ1,?_,s2⟩
    have lz:(List.map (Ty.az ts) xs)[kk]? =some (Ty.az ts e):=by rw[List.getElem?_map,he];rfl
    simp only[cj.er,exec,aX,cN,List.length_map,if_true,Bg hn,SB.er,lz,s1]
   ·cases h
  ·rename_i n kk au off s i b vs hp hc
   have aS:=(aK h).1;replace h:=(aK h).2;subst aS
   have aX:σ.er.ev x.er=.one (.cH n kk au off s i):=by rw[ab.cY,hp];rfl
   have cN:(σ.er.ev v.er).cells?=some (b,vs.map SC.er):=by rw[ab.cY];exact SV.jT hc
   split at h
   ·rename_i gr us xs hn
    have aS:=(aK h).1;replace h:=(aK h).2;subst aS
    rw[dF] at h
    obtain⟨e,he,h⟩:=h
    replace he:xs[kk]? =some e:=he
    obtain⟨e',s1,s2⟩:=akP he h
    refine⟨_,?_,s2⟩
    simp only[cj.er,exec,aX,cN,List.length_map,if_true,Bg hn,SB.er,s1,ab.mY]
   ·cases h
  ·cases h
 |mG x=>
  simp only[dw] at h
  split at h
  ·rename_i n kk sz off hp
   have hb:=(bQ h).1;replace h:=(bQ h).2
   have aX:σ.er.ev x.er=.one (.ptr n kk sz off):=by rw[ab.cY,hp];rfl
   exact⟨_,by simp only[cj.er,exec,aX,yu hb,if_true,ab.cW];rfl,h⟩
  ·rename_i ts y off hp
   have aX:σ.er.ev x.er=.one (.bV (Ty.az ts y) off):=by rw[ab.cY,hp];rfl
   exact⟨_,by simp only[cj.er,exec,aX,ab.cW];rfl,h⟩
  ·rename_i ts y off j n s len hp
   have aX:σ.er.ev x.er=.one (.bD (Ty.az ts y) off j n s len):=by rw[ab.cY,hp];rfl
   exact⟨_,by simp only[cj.er,exec,aX,ab.cW];rfl,h⟩
  ·cases h
 |bin op x y=>
  simp only[dw] at h
  obtain⟨t,z,h1,h2⟩:=aan h
  exact⟨_,by simp only[cj.er,exec,ab.cY,h1,ab.cW];rfl,h2⟩
 |kv op x y=>
  simp only[dw] at h
  obtain⟨t,z,h1,h2⟩:=aal h
  exact⟨_,by simp only[cj.er,exec,ab.cY,h1,ab.cW];rfl,h2⟩
 |un op x=>
  simp only[dw] at h
  obtain⟨t,z,h1,h2⟩:=alg h
  exact⟨_,by simp only[cj.er,exec,ab.cY,h1,ab.cW];rfl,h2⟩
 |conv kd x=>
  simp only[dw] at h
  split at h
  ·rename_i k' n hp
   have aX:σ.er.ev x.er=.one (.c (.int k' n)):=by rw[ab.cY,hp];rfl
   exact⟨_,by simp only[cj.er,exec,aX,ab.cW];rfl,h⟩
  ·cases h
 |kg m ts by_ z l c=>
  simp only[dw] at h
  split at h
  ·rename_i n a b ha hb
   rw[dF] at h
   obtain⟨len,hm,h⟩:=h
   unfold pV at hm
   split at hm
   ·rename_i cm
    injection hm with hm
    subst hm
    split at h
    ·rename_i σ1 e
     have i:=ab.qF e
     have pA:(σ.er.ev l.er).cZ=some a:=by rw[ab.cY];exact SV.wM ha
     have aL:(σ.er.ev c.er).cZ=some b:=by rw[ab.cY];exact SV.wM hb
     refine⟨_,?_,h⟩
     have hz:(Ty.az ts z).length=ts.length:=Ty.yt ts z
     have d9:(SB.row true m ts (fz a.toNat z)).er=ak.row true m ts.length (List.replicate a.toNat (Ty.az ts z)):=by simp[SB.er,fz,List.map_replicate]
     have Kx:a<=b/\0<=a/\b.toNat*by_<=fL/\(Ty.az ts z).length=ts.length:=⟨cm.1,cm.2.1,cm.2.2,hz⟩
     simp only[cj.er,exec,pA,aL,if_pos Kx,<-d9,i,ab.cW]
     rfl
    ·cases h
   ·cases hm
  ·cases h
 |slice sz x lo hi=>
  simp only[dw] at h
  split at h
  ·rename_i n s l0 len l hp el
   have aX:σ.er.ev x.er=.one (.sl n s l0 len):=by rw[ab.cY,hp];rfl
   split at h
   ·rename_i hh eh
    have aS:=(aK h).1;replace h:=(aK h).2;subst aS
    have hb:=(bQ h).1;replace h:=(bQ h).2
    rw[dF] at h
    obtain⟨p,hs,h⟩:=h
    unfold u4 at hs
    split at hs
    ·rename_i cm
     injection hs with hs
     subst hs
     refine⟨_,?_,h⟩
     have su:s=s/\0<=l/\l<=hh/\hh<=len/\(σ.er.h n).isSome=true:=⟨rfl,cm.1,cm.2.1,cm.2.2,yu hb⟩
     have e1:=Gx el
     have e2:=Gx eh
     rw[ab.cW]
     cases lo with
     |none=>
      simp only[Option.map_none,Option.some.injEq] at e1
      subst e1
      cases hi with
      |none=>
       simp only[Option.map_none,Option.some.injEq] at e2
       subst e2
       simp only[cj.er,exec,aX,Option.map_none]
       exact if_pos ⟨trivial,su.2⟩
      |some q=>
       simp only[Option.map_some] at e2
       simp only[cj.er,exec,aX,Option.map_none,Option.map_some,e2]
       exact if_pos ⟨trivial,su.2⟩
     |some q0=>
      simp only[Option.map_some] at e1
      cases hi with
      |none=>
       simp only[Option.map_none,Option.some.injEq] at e2
       subst e2
       simp only[cj.er,exec,aX,Option.map_none,Option.map_some,e1]
       exact if_pos ⟨trivial,su.2⟩
      |some q=>
       simp only[Option.map_some] at e2
       simp only[cj.er,exec,aX,Option.map_some,e1,e2]
       exact if_pos ⟨trivial,su.2⟩
    ·cases hs
   ·cases h
  ·rename_i ts xs l hp el
   have aX:σ.er.ev x.er=.one (.c (.list ts.length (List.map (Ty.az ts) xs))):=by rw[ab.cY,hp];rfl
   split at h
   ·rename_i hh eh
    have aS:=(aK h).1;replace h:=(aK h).2;subst aS
    rw[dF] at h
    obtain⟨p,hs,h⟩:=h
    unfold u4 at hs
    split at hs
    ·rename_i cm
     injection hs with hs
     subst hs
     refine⟨_,?_,h⟩
     have su:ts.length=ts.length/\0<=l/\l<=hh/\hh<=(List.map (Ty.az ts) xs).length:=⟨rfl,cm.1,cm.2.1,Int.le_trans cm.2.2 (Int.le_of_eq (congrArg _ (List.length_map (Ty.az ts)).symm))⟩
     have e1:=Gx el
     have e2:(match hi.map bZ.er with|none=>some (((List.map (Ty.az ts) xs).length:Nat):Int)|some q=>(σ.er.ev q).cZ)=some hh:=by rw[show(List.map (Ty.az ts) xs).length=List.length (α:=Ty.DL ts) xs from List.length_map (Ty.az ts)];exact Gx eh
     rw[ab.cW]
     have Fu:List.map (Ty.az ts) (List.take (hh - l).toNat (List.drop (α:=Ty.DL ts) l.toNat xs))=((List.map (Ty.az ts) xs).drop l.toNat).take (hh - l).toNat:=by
      rw[List.map_take]
      exact congrArg (List.take (hh - l).toNat) List.map_drop
     refine Eq.trans ?_ (congrArg (fun q=>some (σ.er.put d (ai.one (.c (.list ts.length q))))) Fu.symm)
     cases lo with
     |none=>
      simp only[Option.map_none,Option.some.injEq] at e1
      subst e1
      cases hi with
      |none=>
       simp only[Option.map_none,Option.some.injEq] at e2
       subst e2
       simp only[cj.er,exec,aX,Option.map_none]
       exact if_pos ⟨trivial,su.2⟩
      |some q=>
       simp only[Option.map_some] at e2
       simp only[cj.er,exec,aX,Option.map_none,Option.map_some,e2]
       exact if_pos ⟨trivial,su.2⟩
     |some q0=>
      simp only[Option.map_some] at e1
      cases hi with
      |none=>
       simp only[Option.map_none,Option.some.injEq] at e2
       subst e2
       simp only[cj.er,exec,aX,Option.map_none,Option.map_some,e1]
       exact if_pos ⟨trivial,su.2⟩
      |some q=>
       simp only[Option.map_some] at e2
       simp only[cj.er,exec,aX,Option.map_some,e1,e2]
       exact if_pos ⟨trivial,su.2⟩
    ·cases hs
   ·cases h
  ·cases h
 |tail sz x lo=>
  simp only[dw] at h
  split at h
  ·rename_i n a0 s l0 len l hp hl
   have aX:σ.er.ev x.er=.one (.sl a0 s l0 len):=by rw[ab.cY,hp];rfl
   have cT:(σ.er.ev lo.er).cZ=some l:=by rw[ab.cY];exact SV.wM hl
   split at h
   ·rename_i m ts xs hn
    have aS:=(aK h).1;replace h:=(aK h).2;subst aS
    have aS:=(aK h).1;replace h:=(aK h).2;subst aS
    have aS:=(aK h).1;replace h:=(aK h).2;subst aS
    rw[dF] at h
    obtain⟨_,hf,h⟩:=h
    obtain⟨_,hlen⟩:=Kk hf
    rw[dF] at h
    obtain⟨p,hs,h⟩:=h
    unfold u4 at hs
    split at hs
    ·rename_i cm
     injection hs with hs
     subst hs
     simp only at h
     split at h
     ·rename_i σ1 e1
      refine⟨_,?_,h⟩
      have ac4:len=xs.length:=hlen
      have TU:0<=l/\l<=(xs.length:Int):=⟨cm.1,cm.2.1⟩
      have bC:σ.er.h a0=some (.row true m ts.length (List.map (Ty.az ts) xs)):=by simp[ab.er,cB,hn,SB.er]
      have i1:=ab.qF e1
      have e2:(be (aa xs) - l).toNat=xs.length - l.toNat:=by simp only[be,aa];omega
      have e3:G8 xs l.toNat (be (aa xs) - l).toNat=xs.drop l.toNat:=by rw[e2];unfold G8;rw[List.take_of_length_le (by simp)]
      rw[e3] at i1
      simp only[SB.er,ab.ET,List.map_drop] at i1
      simp only[cj.er,exec,aX,cT,bC,List.length_map,ac4,TU.1,TU.2,and_self,if_true,i1,ab.cW,SV.er,SC.er,e2]
     ·cases h
    ·cases hs
   ·cases h
  ·cases h
 |aB off x=>
  simp only[dw] at h
  split at h
  ·rename_i n kk sz o hp
   have hb:=(bQ h).1;replace h:=(bQ h).2
   have aX:σ.er.ev x.er=.one (.ptr n kk sz o):=by rw[ab.cY,hp];rfl
   exact⟨_,by simp only[cj.er,exec,aX,yu hb,if_true,ab.cW];rfl,h⟩
  ·rename_i ts y o hp
   have aX:σ.er.ev x.er=.one (.bV (Ty.az ts y) o):=by rw[ab.cY,hp];rfl
   exact⟨_,by simp only[cj.er,exec,aX,ab.cW];rfl,h⟩
  ·rename_i ts y o j n s len hp
   have aX:σ.er.ev x.er=.one (.bD (Ty.az ts y) o j n s len):=by rw[ab.cY,hp];rfl
   exact⟨_,by simp only[cj.er,exec,aX,ab.cW];rfl,h⟩
  ·cases h
 |cR sz x i=>
  simp only[dw] at h
  split at h
  ·rename_i n s lo len j hp hi
   have aS:=(aK h).1;replace h:=(aK h).2;subst aS
   have hb:=(bQ h).1;replace h:=(bQ h).2
   rw[dF] at h
   obtain⟨q,hq,h⟩:=h
   unfold iG at hq
   split at hq
   ·rename_i cm
    injection hq with hq
    subst hq
    have aX:σ.er.ev x.er=.one (.sl n s lo len):=by rw[ab.cY,hp];rfl
    have hi':(σ.er.ev i.er).cZ=some j:=by rw[ab.cY];exact SV.wM hi
    refine⟨_,?_,h⟩
    have Kx:s=s/\0<=j/\j<len/\(σ.er.h n).isSome=true:=⟨rfl,cm.1,cm.2,yu hb⟩
    simp only[cj.er,exec,aX,hi',ab.cW]
    exact if_pos ⟨trivial,Kx.2⟩
   ·cases hq
  ·rename_i ts xs j hp hi
   have aS:=(aK h).1;replace h:=(aK h).2;subst aS
   rw[dF] at h
   obtain⟨e,he,h⟩:=h
   unfold dP at he
   split at he
   ·rename_i cm
    have aX:σ.er.ev x.er=.one (.c (.list ts.length (List.map (Ty.az ts) xs))):=by rw[ab.cY,hp];rfl
    have hi':(σ.er.ev i.er).cZ=some j:=by rw[ab.cY];exact SV.wM hi
    have lz:(List.map (Ty.az ts) xs)[j.toNat]? =some (Ty.az ts e):=agK (Ty.az ts) he
    refine⟨_,?_,h⟩
    simp only[cj.er,exec,aX,hi',cm,and_self,if_true,lz,ab.cW]
    rfl
   ·cases he
  ·rename_i n kk au off s len j hp hi
   obtain⟨t,y,h1,h2⟩:=Ae h
   have aX:σ.er.ev x.er=.one (.bj n kk au off s len):=by rw[ab.cY,hp];rfl
   have hi':(σ.er.ev i.er).cZ=some j:=by rw[ab.cY];exact SV.wM hi
   have iH:bS σ.er.h (.bj n kk au off s len)=some (t.er y):=h1
   split at h2
   ·rename_i ts ys
    have aS:=(aK h2).1;replace h2:=(aK h2).2;subst aS
    rw[dF] at h2
    obtain⟨q,hq,h2⟩:=h2
    unfold iG at hq
    split at hq
    ·rename_i cm
     injection hq with hq
     subst hq
     refine⟨_,?_,h2⟩
     simp only[cj.er,exec,aX,hi',iH,Ty.er,ab.cW]
     exact if_pos ⟨trivial,cm.1,by rw[show(List.map (Ty.az ts) ys).length=aa (α:=Ty.DL ts) ys from List.length_map (Ty.az ts)];exact cm.2⟩
    ·cases hq
   ·cases h2
  ·cases h
 |ext i x=>
  simp only[dw] at h
  split at h
  ·rename_i xs hp
   split at h
   ·rename_i ag cs hg
    have aX:σ.er.ev x.er=.aY (xs.map fun x=>(x.1,x.2.map SC.er)):=by rw[ab.cY,hp];rfl
    refine⟨_,?_,h⟩
    simp only[cj.er,exec,aX,List.getElem?_map,hg,Option.map_some,ab.cW,Ai]
   ·cases h
  ·cases h
 |m7 ag off sz x=>
  simp only[dw] at h
  split at h
  ·rename_i cs hp
   have aX:σ.er.ev x.er=.agg (cs.map SC.er):=by rw[ab.cY,hp];rfl
   split at h
   ·rename_i l hl
    exact⟨_,by simp only[cj.er,exec,aX,oP,hl,Option.map_some,ab.cW,Ai],h⟩
   ·cases h
  ·cases h
 |mK f bw x=>
  simp only[dw] at h
  split at h
  ·rename_i n sz lo len hp
   have hb:=(bQ h).1;replace h:=(bQ h).2
   have aX:σ.er.ev x.er=.one (.sl n sz lo len):=by rw[ab.cY,hp];rfl
   refine⟨_,?_,h⟩
   simp only[cj.er,exec,aX,yu hb,if_true,ab.cW]
   rw[show(SV.agg (rE bw (be len) (.sl n sz lo len))).er=.agg ((rE bw (be len) (.sl n sz lo len)).map SC.er) from rfl,P0]
   rfl
  ·rename_i ts xs hp
   have aX:σ.er.ev x.er=.one (.c (.list ts.length (List.map (α:=Ty.DL ts) (Ty.az ts) xs))):=by rw[ab.cY,hp];rfl
   refine⟨_,?_,h⟩
   simp only[cj.er,exec,aX,ab.cW]
   rw[show(SV.agg (rE bw (be (aa (α:=Ty.DL ts) xs)) (.v (.list ts) xs))).er=.agg ((rE bw (be (aa (α:=Ty.DL ts) xs)) (.v (.list ts) xs)).map SC.er) from rfl,P0]
   congr 3
   congr 1
   exact congrArg Int.ofNat (List.length_map (as:=(xs:List (Ty.DL ts))) (Ty.az ts))
  ·rename_i ts hp
   have aX:σ.er.ev x.er=.one (.nil ts.length):=by rw[ab.cY,hp];rfl
   refine⟨_,?_,h⟩
   simp only[cj.er,exec,aX,ab.cW]
   rw[show(SV.agg (rE bw (0:Int) (.nil ts))).er=.agg ((rE bw (0:Int) (.nil ts)).map SC.er) from rfl,P0]
   rfl
  ·cases h
 |len x=>
  simp only[dw] at h
  split at h
  ·rename_i n sz lo len hp
   have hb:=(bQ h).1;replace h:=(bQ h).2
   have aX:σ.er.ev x.er=.one (.sl n sz lo len):=by rw[ab.cY,hp];rfl
   exact⟨_,by simp only[cj.er,exec,aX,yu hb,if_true,ab.cW];rfl,h⟩
  ·rename_i ts xs hp
   have aX:σ.er.ev x.er=.one (.c (.list ts.length (List.map (Ty.az ts) xs))):=by rw[ab.cY,hp];rfl
   exact⟨_,by simp only[cj.er,exec,aX,ab.cW];exact congrArg (fun q:Nat=>some (σ.er.put d (ai.one (.c (.int .i64 (q:Int)))))) (List.length_map (Ty.az ts)),h⟩
  ·rename_i ts hp
   have aX:σ.er.ev x.er=.one (.nil ts.length):=by rw[ab.cY,hp];rfl
   exact⟨_,by simp only[cj.er,exec,aX,ab.cW];rfl,h⟩
  ·rename_i n kk au off sz len hp
   obtain⟨t,y,h1,h2⟩:=Ae h
   have aX:σ.er.ev x.er=.one (.bj n kk au off sz len):=by rw[ab.cY,hp];rfl
   have iH:bS σ.er.h (.bj n kk au off sz len)=some (t.er y):=h1
   split at h2
   ·rename_i ts ys
    exact⟨_,by simp only[cj.er,exec,aX,iH,Ty.er,ab.cW];exact congrArg (fun q:Nat=>some (σ.er.put d (ai.one (.c (.int .i64 (q:Int)))))) (List.length_map (Ty.az ts)),h2⟩
   ·cases h2
  ·cases h
 |append fl ts by_ x y=>
  simp only[dw] at h
  split at h
  ·cases h
  ·rename_i n
   obtain⟨xs,m,σ1,h1,h2⟩:=akb h
   obtain⟨ys,m2,σ2,h3,h4⟩:=akc h2
   rw[dF] at h4
   obtain⟨_,hf,h4⟩:=h4
   unfold tO at hf
   split at hf
   ·rename_i hb
    split at h4
    ·rename_i fm e
     have i:=ab.qF e
     refine⟨_,?_,h4⟩
     replace hb:(xs.length+ys.length)*by_<=fL:=hb
     have d9:(SB.row true m2 ts (g8 xs ys)).er=ak.row true m2 ts.length (List.map (Ty.az ts) xs++List.map (Ty.az ts) ys):=by simp[SB.er,g8]
     simp only[cj.er,exec,ab.cY,h1,h3,List.length_map,hb,if_true,<-d9,i,ab.cW]
     rfl
    ·cases h4
   ·cases hf
 |mm mx x y=>
  simp only[dw] at h
  split at h
  ·rename_i kd a Wc b ex ey
   have SG:σ.er.ev x.er=.one (.c (.int kd a)):=by rw[ab.cY,ex];rfl
   have SU:σ.er.ev y.er=.one (.c (.int Wc b)):=by rw[ab.cY,ey];rfl
   split at h
   ·refine⟨_,?_,h⟩
    rw[ab.cW]
    simp only[cj.er,exec,SG,SU,if_true]
    by_cases d8:LT.lt (α:=Int) a b
    ·exact(if_pos d8).trans (congrArg (fun q:Int=>some (σ.er.put d (ai.one (.c (.int kd q))))) (if_pos d8:MF a b=b).symm)
    ·exact(if_neg d8).trans (congrArg (fun q:Int=>some (σ.er.put d (ai.one (.c (.int kd q))))) (if_neg d8:MF a b=a).symm)
   ·refine⟨_,?_,h⟩
    rw[ab.cW]
    simp only[cj.er,exec,SG,SU,Bool.false_eq_true,if_false]
    by_cases d8:LT.lt (α:=Int) b a
    ·exact(if_pos d8).trans (congrArg (fun q:Int=>some (σ.er.put d (ai.one (.c (.int kd q))))) (if_pos d8:zz a b=b).symm)
    ·exact(if_neg d8).trans (congrArg (fun q:Int=>some (σ.er.put d (ai.one (.c (.int kd q))))) (if_neg d8:zz a b=a).symm)
  ·cases h
 |call m f xs=>
  simp only[dw] at h
  obtain⟨σ1,h1,h2⟩:=Ym h
  exact⟨σ1,by simp only[cj.er,exec,pq];exact h1,h2⟩
 |copy x y=>
  simp only[dw] at h
  split at h
  ·rename_i n s lo len c hp hq
   split at h
   ·rename_i gr m ts xs hn
    have aS:=(aK h).1;replace h:=(aK h).2;subst aS
    have ht:=(aK h).1;replace h:=(aK h).2
    have hb:=(bQ h).1;replace h:=(bQ h).2
    simp only[Bool.and_eq_true] at hb
    obtain⟨u,ys,h1,h2⟩:=Ae h
    split at h2
    ·rename_i us ys
     split at h2
     ·rename_i zs hz
      rw[dF] at h2
      obtain⟨ao,hc,h2⟩:=h2
      refine⟨_,?_,h2⟩
      have aX:σ.er.ev x.er=.one (.sl n 1 lo len):=by rw[ab.cY,hp];rfl
      have dB:σ.er.ev y.er=.one c.er:=by rw[ab.cY,hq];rfl
      have pP:Ty.er (.list us) ys=Ty.er (.list ts) zs:=by
       have:=Ty.aaw hz
       exact this
      have iH:bS σ.er.h c.er=some (.list ts.length (List.map (Ty.az ts) zs)):=by
       have:bS σ.er.h c.er=some (Ty.er (.list us) ys):=h1
       rw[this,pP];rfl
      obtain⟨c1,c2⟩:=R8 hc
      have gi:m≠ .aF:=by rintro rfl;exact absurd hb.1 (by simp[Mode.own])
      simp only[cj.er,exec,aX,dB,Bg hn,SB.er,iH]
      rw[if_pos ⟨trivial,trivial,ht,ht,gi,w9 ts xs hb.2,w9 ts zs hb.2,by rw[List.length_map];exact c1⟩]
      rw[ab.cW,ab.mY]
      simp only[SB.er,c2,ht]
      rw[show List.map (Ty.az ts) (List.take (α:=Ty.DL ts) len zs)=List.take len (List.map (Ty.az ts) zs) from List.map_take,show(List.map (Ty.az ts) zs).length=aa (α:=Ty.DL ts) zs from List.length_map _]
      rfl
     ·cases h2
    ·cases h2
   ·cases h
  ·cases h
 |jz t z x=>
  simp only[dw] at h
  split at h
  ·rename_i n s lo len hp
   split at h
   ·rename_i gr m ts xs hn
    have aS:=(aK h).1;replace h:=(aK h).2;subst aS
    have hb:=(bQ h).1;replace h:=(bQ h).2
    simp only[Bool.and_eq_true] at hb
    split at h
    ·rename_i e he
     rw[dF] at h
     obtain⟨ao,hc,h⟩:=h
     refine⟨_,?_,h⟩
     have aX:σ.er.ev x.er=.one (.sl n 1 lo len):=by rw[ab.cY,hp];rfl
     have ly:Ty.az ts e=[t.er z]:=uA he
     have hlen:ts.length=1:=by
      have:=congrArg List.length ly
      rw[Ty.yt] at this
      exact this
     have qV:Ty.eW ts=true:=by
      have:=Ty.GS ts e
      rw[ly] at this
      simp only[Am.eW,List.all_cons,List.all_nil,Bool.and_true,Ty.uV,hb.2] at this
      exact this.symm
     obtain⟨c1,c2⟩:=R8 hc
     have gi:m≠ .aF:=by rintro rfl;exact absurd hb.1 (by simp[Mode.own])
     simp only[cj.er,exec,aX,Bg hn,SB.er]
     rw[if_pos ⟨trivial,hlen,by rw[Ty.uV];exact hb.2,gi,w9 ts xs qV,by rw[List.length_map];exact c1⟩]
     rw[ab.cW,ab.mY]
     simp only[SB.er,c2,hlen,fz,List.map_replicate,ly]
     rfl
    ·cases h
   ·cases h
  ·cases h
 |kw f xs=>
  simp only[dw] at h
  obtain⟨v,h1,h2⟩:=akk h
  refine⟨_,?_,h2⟩
  simp only[cj.er,exec,pq]
  rw[h1]
  simp only[ab.cW]
 |mF f xs=>
  simp only[dw] at h
  split at h
  ·rename_i cs hc
   obtain⟨h1,h2⟩:=YD hc
   refine⟨_,?_,h⟩
   simp only[cj.er,exec,pq]
   split
   ·rename_i cs' e
    have e2:some cs'=some (cs.map SC.er):=e.symm.trans h1
    injection e2 with e2
    subst e2
    rw[if_pos h2,ab.cW]
    simp only[SV.er,SC.er,SC.yw]
   ·rename_i e
    have e2:none=some (cs.map SC.er):=e.symm.trans h1
    cases e2
  ·cases h
 |iZ m f xs=>
  simp only[dw] at h
  obtain⟨σ1,h1,h2⟩:=akl h
  exact⟨σ1,by simp only[cj.er,exec,pq];exact h1,h2⟩
 |iu f xs=>
  simp only[dw] at h
  obtain⟨σ1,h1,h2⟩:=akj h
  exact⟨σ1,by simp only[cj.er,exec,pq];exact h1,h2⟩
 |kx f xs=>
  simp only[dw] at h
  obtain⟨v,h1,h2⟩:=akn h
  exact⟨σ.put d v,by simp only[cj.er,exec,pq,h1,ab.cW],h2⟩
 |kB m f xs=>
  simp only[dw] at h
  obtain⟨σ1,h1,h2⟩:=akp h
  exact⟨σ1,by simp only[cj.er,exec,pq];exact h1,h2⟩
 |kz m f x xs=>
  simp only[dw] at h
  split at h
  ·rename_i g bM hp
   have aS:=(aK h).1;replace h:=(aK h).2;subst aS
   have aX:σ.er.ev x.er=.one (.fn g (bM.map SC.er)):=by rw[ab.cY,hp];simp only[SV.er,SC.er,SC.yw]
   obtain⟨σ1,h1,h2⟩:=akm h
   refine⟨σ1,?_,h2⟩
   simp only[cj.er,exec,aX,pq,if_true]
   rw[List.map_append] at h1
   simp only[List.map_map] at h1⊢
   exact h1
  ·cases h
 |kA f xs=>
  simp only[dw] at h
  obtain⟨v,h1,h2⟩:=ako h
  exact⟨σ.put d v,by simp only[cj.er,exec,pq,h1,ab.cW],h2⟩
 |ky m x xs=>
  simp only[dw] at h
  split at h
  ·rename_i f bM hp
   have aX:σ.er.ev x.er=.one (.fn f (bM.map SC.er)):=by rw[ab.cY,hp];simp only[SV.er,SC.er,SC.yw]
   obtain⟨σ1,h1,h2⟩:=Ym h
   refine⟨σ1,?_,h2⟩
   simp only[cj.er,exec,aX,pq]
   rw[List.map_append] at h1
   simp only[List.map_map] at h1⊢
   exact h1
  ·cases h
structure eJ where
 dst:Option Nat
 op:cj
 guard:Option (Nat×Bool)
def eJ.er (o:eJ):bI:=⟨o.dst,o.op.er,o.guard⟩
def ab.lit (σ:ab) (n:Nat) (b:Bool):ab:={σ with env:=aq σ.env n (.one (.v .bool b))}
theorem ab.Bf {σ:ab} {n:Nat} {b:Bool} (h:σ.env n=.one (.v .bool b)):(σ.lit n b).er=σ.er:=by
 have:aq σ.env n (.one (.v .bool b))=σ.env:=by
  funext s
  simp only[ik]
  split
  ·rename_i hs;subst hs;exact h.symm
  ·rfl
 simp only[ab.lit,this]
def oM (T:List ar):List eJ->ab->(ab->Option ρ)->Option ρ
 |[],σ,k=>k σ
 |o::os,σ,k=>match o.guard with
  |none=>dw T o.dst o.op σ fun σ1=>oM T os σ1 k
  |some (s,jt)=>match σ.env s with
   |.one (.v .bool b)=>aH b
    (match jt with
     |true=>dw T o.dst o.op (σ.lit s true) fun σ1=>oM T os σ1 k
     |false=>oM T os ((σ.lit s true).put o.dst (.aY [])) k)
    (match jt with
     |true=>oM T os ((σ.lit s false).put o.dst (.aY [])) k
     |false=>dw T o.dst o.op (σ.lit s false) fun σ1=>oM T os σ1 k)
   |.aY []=>oM T os (σ.put o.dst (.aY [])) k
   |_=>none
theorem PG {T:List ar}:∀{os:List eJ} {σ:ab} {k:ab->Option ρ} {r:ρ},oM T os σ k=some r->
  ∃σ1:ab,ja (cb T) (os.map eJ.er) σ.er=some σ1.er/\k σ1=some r
 |[],σ,k,r,h=>⟨σ,rfl,h⟩
 |o::os,σ,k,r,h=>by
  obtain⟨d,op,g⟩:=o
  have run:∀iF:ab,iF.er=σ.er->dJ (cb T) (eJ.er ⟨d,op,g⟩) σ.er=exec (cb T) d op.er σ.er->dw T d op iF (fun σ1=>oM T os σ1 k)=some r->
    ∃σ1:ab,ja (cb T) ((⟨d,op,g⟩::os).map eJ.er) σ.er=some σ1.er/\k σ1=some r:=by
   intro iF h0 he hs
   obtain⟨σ1,h1,h2⟩:=Yp hs
   obtain⟨σ2,h3,h4⟩:=PG h2
   rw[h0] at h1
   exact⟨σ2,by simp only[List.map_cons,ja,he,h1,h3],h4⟩
  have xf:∀iF:ab,iF.er=σ.er->dJ (cb T) (eJ.er ⟨d,op,g⟩) σ.er=some (σ.er.put d (.aY []))->oM T os (iF.put d (.aY [])) k=some r->
    ∃σ1:ab,ja (cb T) ((⟨d,op,g⟩::os).map eJ.er) σ.er=some σ1.er/\k σ1=some r:=by
   intro iF h0 he hs
   obtain⟨σ2,h3,h4⟩:=PG hs
   rw[ab.cW,h0] at h3
   exact⟨σ2,by simp only[List.map_cons,ja,he];exact h3,h4⟩
  cases g with
  |none=>exact run σ rfl rfl h
  |some g=>
   obtain⟨s,jt⟩:=g
   simp only[oM] at h
   split at h
   ·rename_i b hs
    have iN:σ.er.env s=.one (.c (.bool b)):=by show(σ.env s).er=_;rw[hs];rfl
    cases hb:(b:Bool) with
    |true=>
     have h0:(σ.lit s true).er=σ.er:=ab.Bf (by rw[hs,hb])
     rw[hb] at h
     simp only[Jb] at h
     cases jt with
     |true=>exact run _ h0 (by simp[dJ,eJ.er,iN,hb]) h
     |false=>exact xf _ h0 (by simp[dJ,eJ.er,iN,hb]) h
    |false=>
     have h0:(σ.lit s false).er=σ.er:=ab.Bf (by rw[hs,hb])
     rw[hb] at h
     simp only[EA] at h
     cases jt with
     |true=>exact xf _ h0 (by simp[dJ,eJ.er,iN,hb]) h
     |false=>exact run _ h0 (by simp[dJ,eJ.er,iN,hb]) h
   ·rename_i hs
    have iN:σ.er.env s=.aY []:=by show(σ.env s).er=_;rw[hs];rfl
    exact xf σ rfl (by simp[dJ,eJ.er,iN]) h
   ·cases h
def oN (T:List ar) (ps:List (Nat×Nat)):List eJ->List (Option FP)->ab->(ab->Option ρ)->Option ρ
 |[],cF,σ,k=>dQ (uK ps cF) (k σ)
 |o::os,cF,σ,k=>match o.guard with
  |none=>dw T o.dst o.op σ fun σ1=>oN T ps os (cF++[o.er.fp σ.er]) σ1 k
  |some (s,jt)=>match σ.env s with
   |.one (.v .bool b)=>aH b
    (match jt with
     |true=>dw T o.dst o.op (σ.lit s true) fun σ1=>oN T ps os (cF++[o.er.fp (σ.lit s true).er]) σ1 k
     |false=>oN T ps os (cF++[o.er.fp (σ.lit s true).er]) ((σ.lit s true).put o.dst (.aY [])) k)
    (match jt with
     |true=>oN T ps os (cF++[o.er.fp (σ.lit s false).er]) ((σ.lit s false).put o.dst (.aY [])) k
     |false=>dw T o.dst o.op (σ.lit s false) fun σ1=>oN T ps os (cF++[o.er.fp (σ.lit s false).er]) σ1 k)
   |.aY []=>oN T ps os (cF++[o.er.fp σ.er]) (σ.put o.dst (.aY [])) k
   |_=>none
theorem PF {T:List ar} {ps:List (Nat×Nat)}:∀{os:List eJ} {cF:List (Option FP)} {σ:ab} {k:ab->Option ρ} {r:ρ},oN T ps os cF σ k=some r->
  ∃(σ1:ab) (fs:List (Option FP)),kE (cb T) (os.map eJ.er) cF σ.er=some (fs,σ1.er)/\uK ps fs=true/\k σ1=some r
 |[],cF,σ,k,r,h=>⟨σ,cF,rfl,(bQ h).1,(bQ h).2⟩
 |o::os,cF,σ,k,r,h=>by
  obtain⟨d,op,g⟩:=o
  have run:∀iF:ab,iF.er=σ.er->dJ (cb T) (eJ.er ⟨d,op,g⟩) σ.er=exec (cb T) d op.er σ.er->dw T d op iF (fun σ1=>oN T ps os (cF++[(eJ.er ⟨d,op,g⟩).fp iF.er]) σ1 k)=some r->
    ∃(σ1:ab) (fs:List (Option FP)),kE (cb T) ((⟨d,op,g⟩::os).map eJ.er) cF σ.er=some (fs,σ1.er)/\uK ps fs=true/\k σ1=some r:=by
   intro iF h0 he hs
   obtain⟨σ1,h1,h2⟩:=Yp hs
   obtain⟨σ2,fs,h3,h4⟩:=PF h2
   rw[h0] at h1 h3
   exact⟨σ2,fs,by simp only[List.map_cons,kE,he,h1,h3],h4⟩
  have xf:∀iF:ab,iF.er=σ.er->dJ (cb T) (eJ.er ⟨d,op,g⟩) σ.er=some (σ.er.put d (.aY []))->oN T ps os (cF++[(eJ.er ⟨d,op,g⟩).fp iF.er]) (iF.put d (.aY [])) k=some r->
    ∃(σ1:ab) (fs:List (Option FP)),kE (cb T) ((⟨d,op,g⟩::os).map eJ.er) cF σ.er=some (fs,σ1.er)/\uK ps fs=true/\k σ1=some r:=by
   intro iF h0 he hs
   obtain⟨σ2,fs,h3,h4⟩:=PF hs
   rw[ab.cW,h0] at h3
   exact⟨σ2,fs,by simp only[List.map_cons,kE,he];exact h3,h4⟩
  cases g with
  |none=>exact run σ rfl rfl h
  |some g=>
   obtain⟨s,jt⟩:=g
   simp only[oN] at h
   split at h
   ·rename_i b hs
    have iN:σ.er.env s=.one (.c (.bool b)):=by show(σ.env s).er=_;rw[hs];rfl
    cases hb:(b:Bool) with
    |true=>
     have h0:(σ.lit s true).er=σ.er:=ab.Bf (by rw[hs,hb])
     rw[hb] at h
     simp only[Jb] at h
     cases jt with
     |true=>exact run _ h0 (by simp[dJ,eJ.er,iN,hb]) h
     |false=>exact xf _ h0 (by simp[dJ,eJ.er,iN,hb]) h
    |false=>
     have h0:(σ.lit s false).er=σ.er:=ab.Bf (by rw[hs,hb])
     rw[hb] at h
     simp only[EA] at h
     cases jt with
     |true=>exact xf _ h0 (by simp[dJ,eJ.er,iN,hb]) h
     |false=>exact run _ h0 (by simp[dJ,eJ.er,iN,hb]) h
   ·rename_i hs
    have iN:σ.er.env s=.aY []:=by show(σ.env s).er=_;rw[hs];rfl
    exact xf σ rfl (by simp[dJ,eJ.er,iN]) h
   ·cases h
end
end Go.Am
