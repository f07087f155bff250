/- S4: operations of the typed evaluator. No condition. -/
import Derived.Test.YtbgmbplglejidaaS3
set_option linter.unusedVariables false
namespace Go.Am
theorem akz {α β:Type} (f:α->β) {l:List α} {i:Nat} {e:α} (h:l[i]? =some e):(l.map f)[i]? =some (f e):=by rw[List.getElem?_map,h];rfl
section
variable {ρ:Type}
def JS:Bool->Mode
 |true=>.ab
 |false=>.aO
theorem anw (o:Bool):(if o=true then Mode.ab else .aO)=JS o:=by cases o<;>rfl
def JQ (σ:af) (d:Int) (o:Option cz):Option Int:=
 match o with
 |none=>some d
 |some q=>(σ.ev q).dh
theorem JR {σ:af} {d l:Int} {o:Option cz} (h:JQ σ d o=some l):(match o.map cz.er with|none=>some d|some q=>(σ.er.ev q).dh)=some l:=by
 cases o with
 |none=>exact h
 |some q=>simp only[Option.map_some,af.dm];exact SV.yQ h
def tv (bN:Bool) (n:Int) (c:SC):List SC:=match bN with
 |true=>[.v (.int .i64) n,.v (.int .i64) (1:Int),c]
 |false=>[.v (.int .i64) (1:Int),.v (.int .i64) n,c]
theorem V1 (bN:Bool) (n:Int) (c:SC):(tv bN n c).map SC.er=kS bN n c.er:=by cases bN<;>rfl
def zn:List SC->Option (List TD)
 |[]=>some []
 |.v t x::l=>match t.eF with
  |true=>match zn l with
   |some ds=>some (⟨t,x⟩::ds)
   |none=>none
  |false=>none
 |_::_=>none
theorem acC:∀{vs:List SC} {ds:List TD},zn vs=some ds->lC (vs.map SC.er)=some (cA ds)
 |[],ds,h=>by simp only[zn] at h;injection h with h;subst h;rfl
 |c::vs,ds,h=>by
  cases c with
  |v t x=>
   simp only[zn] at h
   split at h
   ·rename_i hs
    split at h
    ·rename_i l hl
     injection h with h
     subst h
     simp only[List.map_cons,SC.er,lC,Ty.xg,hs,if_true,acC hl,cA,Option.map_some]
    ·cases h
   ·cases h
  |_=>simp[zn] at h
def V4 (us:List Ty) (e:Ty.DL us) (off s i:Nat) (vs:List SC) (k:Ty.DL us->Option ρ):Option ρ:=
 match(Ty.gW us e)[off]? with
 |some ⟨.list ts,ys⟩=>cG ts.length s (cG vs.length s (eP (Ty.fq ts) ((bY (α:=Ty.DL ts) ys i).U fun _=>match zn vs with
  |some ds=>match qA ts ds with
   |some el=>match Kg us e off ⟨.list ts,bg (α:=Ty.DL ts) ys i el⟩ with
    |some e'=>k e'
    |none=>none
   |none=>none
  |none=>none)))
 |_=>none
theorem apB {us ts:List Ty} {xs:List (Ty.DL us)} {kk off i:Nat} {e e':Ty.DL us} {vs:List SC} {ds:List TD} {el y0:Ty.DL ts} (ys:List (Ty.DL ts)) (he:xs[kk]? =some e) (hd:(Ty.gW us e)[off]? =some ⟨.list ts,ys⟩)
  (iE:vs.length=ts.length) (hs:Ty.fq ts=true) (hy:ys[i]? =some y0) (m8:zn vs=some ds) (lJ:qA ts ds=some el) (yD:Kg us e off ⟨.list ts,bg ys i el⟩=some e'):
  vc (List.map (Ty.aJ us) xs) kk off ts.length i (vs.map SC.er)=some (List.map (Ty.aJ us) (bg xs kk e')):=by
 have nc:(Ty.aJ us e)[off]? =some (.list ts.length (List.map (Ty.aJ ts) ys)):=MX hd
 have hx:(List.map (Ty.aJ us) xs)[kk]? =some (Ty.aJ us e):=by rw[List.getElem?_map,he];rfl
 have hi:i<(List.map (Ty.aJ ts) ys).length:=by rw[List.length_map];exact(List.getElem?_eq_some_iff.1 hy).1
 have Z2:Ty.aJ us e'=(Ty.aJ us e).set off (.list ts.length (List.map (Ty.aJ ts) (bg ys i el))):=acF yD
 unfold vc
 rw[hx,Option.bind_some,nc]
 simp only
 rw[if_pos ⟨trivial,by simpa using iE,hi,zm ts ys hs⟩,acC m8,List.getD_eq_getElem?_getD,hx]
 simp only[Option.map_some,Option.getD_some]
 unfold bg at Z2⊢
 rw[List.map_set,Z2,List.map_set,wS lJ]
theorem ap1 {us:List Ty} {xs:List (Ty.DL us)} {kk:Nat} {e:Ty.DL us} {off s i:Nat} {vs:List SC} {k:Ty.DL us->Option ρ} {r:ρ} (he:xs[kk]? =some e) (h:V4 us e off s i vs k=some r):
  ∃e',vc (List.map (Ty.aJ us) xs) kk off s i (vs.map SC.er)=some (List.map (Ty.aJ us) (bg xs kk e'))/\k e'=some r:=by
 unfold V4 at h
 split at h
 ·rename_i ts ys hd
  have vZ:=(bc h).1;replace h:=(bc h).2
  have uq:=(bc h).1;replace h:=(bc h).2
  have hs:=(bZ h).1;replace h:=(bZ h).2
  rw[eH] at h
  obtain⟨y0,hy,h⟩:=h
  split at h
  ·rename_i ds m8
   split at h
   ·rename_i el lJ
    split at h
    ·rename_i e' yD
     subst vZ
     exact⟨e',apB ys he hd uq hs hy m8 lJ yD,h⟩
    ·cases h
   ·cases h
  ·cases h
 ·cases h
def dU (T:List au) (d:Option Nat) (op:cE) (σ:af) (k:af->Option ρ):Option ρ:=
 match op with
 |.mv x=>k (σ.put d (σ.ev x))
 |.pick c x y=>match σ.ev c with
  |.one (.v .bool b)=>match σ.ev x,σ.ev y with
   |.one (.v t x'),.one (.v u y')=>match Ty.cast u t y' with
    |some z=>k (σ.put d (.one (.v t (ak b x' z))))
    |none=>ak b (k (σ.put d (σ.ev x))) (k (σ.put d (σ.ev y)))
   |_,_=>ak b (k (σ.put d (σ.ev x))) (k (σ.put d (σ.ev y)))
  |_=>none
 |.alloc zs=>match d with
  |some n=>match σ.ins n (.box zs) with
   |some σ1=>k (σ1.put d (.one (.ptr n 0 0 0)))
   |none=>none
  |none=>none
 |.box sz x=>match d,(σ.ev x).cells? with
  |some n,some (_,cs)=>cG cs.length sz (match σ.ins n (.box cs) with
   |some σ1=>k (σ1.put d (.one (.ptr n 0 0 0)))
   |none=>none)
  |_,_=>none
 |.build zs parts=>match Fq σ.ev zs parts with
  |some cs=>k (σ.put d (.agg cs))
  |none=>none
 |.e7 ts parts=>match d with
  |some n=>Kx ts σ (parts.map σ.ev) fun es o σ1=>match σ1.ins n (.row true (JS o) ts es) with
   |some σ2=>k (σ2.put d (.one (.sl n ts.length 0 es.length)))
   |none=>none
  |none=>none
 |.load ag sz x=>match σ.ev x with
  |.one p=>Fe σ.h p sz fun cs=>k (σ.put d (zw ag cs))
  |_=>none
 |.mO ag sz x=>match σ.ev x with
  |.one p=>VA σ p fun σ1=>Fe σ1.h p sz fun cs=>k (σ1.put d (zw ag cs))
  |_=>none
 |.store sz x v=>match σ.ev x,(σ.ev v).cells? with
  |.one (.ptr n kk aD off),some (_,vs)=>cG vs.length sz (match σ.h n with
   |some (.box cs)=>cG kk 0 (eP (Nat.ble (off+sz) cs.length) (k (σ.du n (.box (bX cs off vs)))))
   |some (.row gr m ts xs)=>cG aD ts.length ((bY xs kk).U fun e=>V5 σ n gr m ts xs kk off e vs k)
   |none=>none)
  |.one (.cN n kk aD off s i),some (_,vs)=>cG vs.length sz (match σ.h n with
   |some (.row gr .live us xs)=>cG aD us.length ((bY xs kk).U fun e=>V4 us e off s i vs fun e'=>k (σ.du n (.row gr .live us (bg xs kk e'))))
   |_=>none)
  |_,_=>none
 |.od x=>match σ.ev x with
  |.one (.ptr n kk sz off)=>eP (σ.h n).isSome (k (σ.put d (.one (.ptr n kk sz off))))
  |.one (.cj ts x off)=>k (σ.put d (.one (.cj ts x off)))
  |_=>none
 |.bin op x y=>Mo op (σ.ev x) (σ.ev y) fun t z=>k (σ.put d (.one (.v t z)))
 |.me op x y=>Mn op (σ.ev x) (σ.ev y) fun t z=>k (σ.put d (.one (.v t z)))
 |.un op x=>Ww op (σ.ev x) fun t z=>k (σ.put d (.one (.v t z)))
 |.conv kd x=>match σ.ev x with
  |.one (.v (.int _) n)=>k (σ.put d (.one (.v (.int kd) (C5 kd n))))
  |_=>none
 |.jC m ts by_ z l c=>match d,(σ.ev l).dh,(σ.ev c).dh with
  |some n,some a,some b=>(qB a b by_).U fun len=>match σ.ins n (.row true m ts (dN len z)) with
   |some σ1=>k (σ1.put d (.one (.sl n ts.length 0 len)))
   |none=>none
  |_,_,_=>none
 |.slice sz x lo hi=>
  match σ.ev x,JQ σ 0 lo with
  |.one (.sl n s l0 len),some l=>
   match JQ σ (aI len) hi with
   |some h=>cG s sz (eP (σ.h n).isSome ((f7 l h len).U fun p=>k (σ.put d (.one (.sl n s (aC l0 p.1) p.2)))))
   |none=>none
  |.one (.v (.list ts) xs),some l=>
   match JQ σ (aI (J (α:=Ty.DL ts) xs)) hi with
   |some h=>cG ts.length sz ((f7 l h (J (α:=Ty.DL ts) xs)).U fun p=>k (σ.put d (.one (.v (.list ts) (fe (α:=Ty.DL ts) xs p.1 p.2)))))
   |none=>none
  |_,_=>none
 |.tail sz x lo=>match d,σ.ev x,(σ.ev lo).dh with
  |some n,.one (.sl a s l0 len),some l=>match σ.h a with
   |some (.row true m ts xs)=>cG s ts.length (cG ts.length sz (cG l0 0 ((ae l0 len (J xs)).U fun _=>(f7 l (aI (J xs)) (J xs)).U fun p=>
    match(σ.del a).ins n (.row true m ts (fe xs p.1 p.2)) with
    |some σ1=>k (σ1.put d (.one (.sl n sz 0 p.2)))
    |none=>none)))
   |_=>none
  |_,_,_=>none
 |.ao off x=>match σ.ev x with
  |.one (.ptr n kk sz o)=>eP (σ.h n).isSome (k (σ.put d (.one (.ptr n kk sz (o+off)))))
  |.one (.cj ts x o)=>k (σ.put d (.one (.cj ts x (o+off))))
  |_=>none
 |.bm sz x i=>match σ.ev x,(σ.ev i).dh with
  |.one (.sl n s lo len),some j=>cG s sz (eP (σ.h n).isSome ((da j len).U fun q=>k (σ.put d (.one (.ptr n (aC lo q) s 0)))))
  |.one (.v (.list ts) xs),some j=>cG ts.length sz ((dd (α:=Ty.DL ts) xs j).U fun e=>k (σ.put d (.one (.cj ts e 0))))
  |.one (.bx n kk aD off s len),some j=>xr σ.h (.bx n kk aD off s len) fun t x=>match t,x with
   |.list ts,ys=>cG ts.length sz ((da j (J (α:=Ty.DL ts) ys)).U fun q=>k (σ.put d (.one (.cN n kk aD off sz q))))
   |_,_=>none
  |_,_=>none
 |.ext i x=>match σ.ev x with
  |.bo xs=>match xs[i]? with
   |some (ag,cs)=>k (σ.put d (zw ag cs))
   |none=>none
  |_=>none
 |.oM ag off sz x=>match σ.ev x with
  |.agg cs=>match sub cs off sz with
   |some l=>k (σ.put d (zw ag l))
   |none=>none
  |_=>none
 |.ou f bN x=>match σ.ev x with
  |.one (.sl n sz lo len)=>eP (σ.h n).isSome (k (σ.put d (.agg (tv bN (aI len) (.sl n sz lo len)))))
  |.one (.v (.list ts) xs)=>k (σ.put d (.agg (tv bN (aI (J (α:=Ty.DL ts) xs)) (.v (.list ts) xs))))
  |.one (.nil ts)=>k (σ.put d (.agg (tv bN (0:Int) (.nil ts))))
  |_=>none
 |.len x=>match σ.ev x with
  |.one (.sl n sz lo len)=>eP (σ.h n).isSome (k (σ.put d (.one (.v (.int .i64) (aI len)))))
  |.one (.v (.list ts) xs)=>k (σ.put d (.one (.v (.int .i64) (aI (J (α:=Ty.DL ts) xs)))))
  |.one (.nil ts)=>k (σ.put d (.one (.v (.int .i64) (0:Int))))
  |.one (.bx n kk aD off sz len)=>xr σ.h (.bx n kk aD off sz len) fun t x=>match t,x with
   |.list ts,ys=>k (σ.put d (.one (.v (.int .i64) (aI (J (α:=Ty.DL ts) ys)))))
   |_,_=>none
  |_=>none
 |.append fl ts by_ x y=>match d with
  |none=>none
  |some n=>T5 σ ts (σ.ev x) fun xs m σ1=>T6 fl σ1 ts m (σ.ev y) fun ys m2 σ2=>
   (jL (aC (J xs) (J ys)) by_).U fun _=>match σ2.ins n (.row true m2 ts (dP xs ys)) with
    |some gD=>k (gD.put d (.one (.sl n ts.length 0 (aC (J xs) (J ys)))))
    |none=>none
 |.mm mx x y=>match σ.ev x,σ.ev y with
  |.one (.v (.int kd) a),.one (.v (.int kd') b)=>match mx with
   |true=>k (σ.put d (.one (.v (.int kd) (QB a b))))
   |false=>k (σ.put d (.one (.v (.int kd) (BC a b))))
  |_,_=>none
 |.call m f xs=>Kf T m d f (xs.map σ.ev) σ k
 |.mf f xs=>Vt T d f (xs.map σ.ev) σ k
 |.copy x y=>match σ.ev x,σ.ev y with
  |.one (.sl n s lo len),.one c=>match σ.h n with
   |some (.row gr m ts xs)=>cG s 1 (cG ts.length 1 (eP (m.own&&Ty.fq ts) (xr σ.h c fun u ys=>match u,ys with
    |.list us,ys=>match Ty.cast (.list us) (.list ts) ys with
     |some zs=>(H9 (α:=Ty.DL ts) xs lo len (List.take (α:=Ty.DL ts) len zs)).U fun ar=>k ((σ.du n (.row gr m ts ar)).put d (.one (.v (.int .i64) (aI (Nat.min (J (α:=Ty.DL ts) zs) len)))))
     |none=>none
    |_,_=>none)))
   |_=>none
  |_,_=>none
 |.kB t z x=>match σ.ev x with
  |.one (.sl n s lo len)=>match σ.h n with
   |some (.row gr m ts xs)=>cG s 1 (eP (m.own&&t.eF) (match qA ts [⟨t,z⟩] with
    |some e=>(H9 (α:=Ty.DL ts) xs lo len (dN len e)).U fun ar=>k ((σ.du n (.row gr m ts ar)).put d (.bo []))
    |none=>none))
   |_=>none
  |_=>none
 |.pf f xs=>match zq (xs.map σ.ev) with
  |some cs=>k (σ.put d (.one (.fn f cs)))
  |none=>none
 |.mg m x xs=>match σ.ev x with
  |.one (.fn f cf)=>Kf T m d f (xs.map σ.ev++cf.map .one) σ k
  |_=>none
 |.eN m f xs=>Vu T m d f (xs.map σ.ev) σ k
 |.jh f xs=>Vs T d f (xs.map σ.ev) σ k
 |.mh f xs=>Vw T d f (xs.map σ.ev) σ k
 |.lv f xs=>Vv T d f (xs.map σ.ev) σ k
theorem Dh {σ:af} {n:Nat} {b:SB} (h:σ.h n=some b):σ.er.h n=some b.er:=by simp[af.er,cR,h]
theorem AF {σ:af} {n:Nat} (h:(σ.h n).isSome=true):(σ.er.h n).isSome=true:=by
 simp only[af.er,Yr,h]
theorem WA (t:Ty) (x:t.D):(SV.one (.v t x)).er=.one (.c (t.er x)):=rfl
theorem XY {ts:List Ty} {xs ar ys:List (Ty.DL ts)} {lo len:Nat} (h:H9 xs lo len ys=some ar):lo+len<=xs.length/\List.map (Ty.aJ ts) ar=bX (List.map (Ty.aJ ts) xs) lo (List.map (Ty.aJ ts) ys):=by
 unfold H9 at h
 split at h
 ·rename_i hc
  injection h with h
  subst h
  exact⟨hc,Cm (Ty.aJ ts) xs ys lo⟩
 ·cases h
theorem Ty.aeL {t u:Ty} {x:t.D} {y:u.D} (h:Ty.cast t u x=some y):t.er x=u.er y:=by
 unfold Ty.cast at h
 split at h
 ·rename_i he
  have:=Ty.beq_eq he
  subst this
  injection h with h
  rw[<-h]
 ·cases h
theorem acI {T:List au} {d:Option Nat} {op:cE} {σ:af} {k:af->Option ρ} {r:ρ} (h:dU T d op σ k=some r):
  ∃σ1:af,exec (cH T) d op.er σ.er=some σ1.er/\k σ1=some r:=by
 cases op with
 |mv x=>exact⟨_,by simp only[cE.er,exec,af.dn,af.dm],h⟩
 |pick c x y=>
  simp only[dU] at h
  split at h
  ·rename_i b hc
   have cO:σ.er.ev c.er=.one (.c (.bool b)):=by rw[af.dm,hc];rfl
   have cV:∀σ1:af,σ1.er=σ.er.put d (cond b (σ.ev x).er (σ.ev y).er)->exec (cH T) d (cE.er (.pick c x y)) σ.er=some σ1.er:=by
    intro σ1 e
    simp only[cE.er,exec,cO,af.dm,e]
    cases b<;>rfl
   have gen:ak b (k (σ.put d (σ.ev x))) (k (σ.put d (σ.ev y)))=some r->∃σ1:af,exec (cH T) d (cE.er (.pick c x y)) σ.er=some σ1.er/\k σ1=some r:=by
    intro h
    cases hb:(b:Bool) with
    |true=>rw[hb] at h;exact⟨_,cV _ (by rw[af.dn,hb];rfl),h⟩
    |false=>rw[hb] at h;exact⟨_,cV _ (by rw[af.dn,hb];rfl),h⟩
   split at h
   ·rename_i t x' u y' ex ey
    split at h
    ·rename_i z hz
     refine⟨_,cV _ ?_,h⟩
     rw[af.dn,ex,ey,WA,WA,WA,Ty.Xq hz]
     cases (b:Bool)<;>rfl
    ·exact gen h
   ·exact gen h
  ·cases h
 |alloc zs=>
  simp only[dU] at h
  split at h
  ·rename_i n
   split at h
   ·rename_i σ1 e
    have:=af.sH e
    exact⟨_,by simp only[cE.er,exec];rw[show aq.box (zs.map SC.er)=(SB.box zs).er from rfl,this,af.dn];rfl,h⟩
   ·cases h
  ·cases h
 |box sz x=>
  simp only[dU] at h
  split at h
  ·rename_i n b cs hc
   have br:=(bc h).1;replace h:=(bc h).2;subst br
   split at h
   ·rename_i σ1 e
    have:=af.sH e
    refine⟨_,?_,h⟩
    simp only[cE.er,exec,af.dm,SV.lx hc,List.length_map,if_true]
    rw[show aq.box (cs.map SC.er)=(SB.box cs).er from rfl,this,af.dn];rfl
   ·cases h
  ·cases h
 |build zs parts=>
  simp only[dU] at h
  split at h
  ·rename_i cs hc
   exact⟨_,by simp only[cE.er,exec,adq hc,af.dn];rfl,h⟩
  ·cases h
 |e7 ts parts=>
  simp only[dU] at h
  split at h
  ·rename_i n
   obtain⟨es,o,σ1,h1,h2⟩:=ads h
   split at h2
   ·rename_i σ2 e
    have i:=af.sH e
    refine⟨_,?_,h2⟩
    simp only[cE.er,exec,tZ,h1,af.dn]
    have:(SB.row true (JS o) ts es).er=aq.row true (JS o) ts.length (List.map (Ty.aJ ts) es):=rfl
    rw[anw,<-this,i,List.length_map]
    rfl
   ·cases h2
  ·cases h
 |load ag sz x=>
  simp only[dU] at h
  split at h
  ·rename_i p hp
   obtain⟨l,h1,h2⟩:=VF h
   have be:σ.er.ev x.er=.one p.er:=by rw[af.dm,hp];rfl
   have jM:loadAt σ.er.h p.er sz=some (l.map SC.er):=h1
   exact⟨_,by simp only[cE.er,exec,be,jM,af.dn,Cu],h2⟩
  ·cases h
 |mO ag sz x=>
  simp only[dU] at h
  split at h
  ·rename_i p hp
   obtain⟨σ1,h0,h⟩:=apC h
   obtain⟨l,h1,h2⟩:=VF h
   have be:σ.er.ev x.er=.one p.er:=by rw[af.dm,hp];rfl
   have jM:loadAt σ1.er.h p.er sz=some (l.map SC.er):=h1
   exact⟨_,by simp only[cE.er,exec,be,h0,jM,af.dn,Cu],h2⟩
  ·cases h
 |store sz x v=>
  simp only[dU] at h
  split at h
  ·rename_i n kk aD off b vs hp hc
   have br:=(bc h).1;replace h:=(bc h).2;subst br
   have be:σ.er.ev x.er=.one (.ptr n kk aD off):=by rw[af.dm,hp];rfl
   have cO:(σ.er.ev v.er).cells?=some (b,vs.map SC.er):=by rw[af.dm];exact SV.lx hc
   split at h
   ·rename_i cs hn
    have br:=(bc h).1;replace h:=(bc h).2;subst br
    have hb:=(bZ h).1;replace h:=(bZ h).2
    have gI:=Nat.le_of_ble_eq_true hb
    refine⟨_,?_,h⟩
    simp only[cE.er,exec,be,cO,List.length_map,if_true,Dh hn,SB.er,gI,and_self,af.oJ,<-Cm]
   ·rename_i gr m ts xs hn
    have br:=(bc h).1;replace h:=(bc h).2;subst br
    rw[eH] at h
    obtain⟨e,he,h⟩:=h
    replace he:xs[kk]? =some e:=he
    obtain⟨σ1,s1,s2⟩:=ap2 h
    refine⟨σ1,?_,s2⟩
    have nc:(List.map (Ty.aJ ts) xs)[kk]? =some (Ty.aJ ts e):=by rw[List.getElem?_map,he];rfl
    simp only[cE.er,exec,be,cO,List.length_map,if_true,Dh hn,SB.er,nc,s1]
   ·cases h
  ·rename_i n kk aD off s i b vs hp hc
   have br:=(bc h).1;replace h:=(bc h).2;subst br
   have be:σ.er.ev x.er=.one (.cN n kk aD off s i):=by rw[af.dm,hp];rfl
   have cO:(σ.er.ev v.er).cells?=some (b,vs.map SC.er):=by rw[af.dm];exact SV.lx hc
   split at h
   ·rename_i gr us xs hn
    have br:=(bc h).1;replace h:=(bc h).2;subst br
    rw[eH] at h
    obtain⟨e,he,h⟩:=h
    replace he:xs[kk]? =some e:=he
    obtain⟨e',s1,s2⟩:=ap1 he h
    refine⟨_,?_,s2⟩
    simp only[cE.er,exec,be,cO,List.length_map,if_true,Dh hn,SB.er,s1,af.oJ]
   ·cases h
  ·cases h
 |od x=>
  simp only[dU] at h
  split at h
  ·rename_i n kk sz off hp
   have hb:=(bZ h).1;replace h:=(bZ h).2
   have be:σ.er.ev x.er=.one (.ptr n kk sz off):=by rw[af.dm,hp];rfl
   exact⟨_,by simp only[cE.er,exec,be,AF hb,if_true,af.dn];rfl,h⟩
  ·rename_i ts y off hp
   have be:σ.er.ev x.er=.one (.cj (Ty.aJ ts y) off):=by rw[af.dm,hp];rfl
   exact⟨_,by simp only[cE.er,exec,be,af.dn];rfl,h⟩
  ·cases h
 |bin op x y=>
  simp only[dU] at h
  obtain⟨t,z,h1,h2⟩:=aeE h
  exact⟨_,by simp only[cE.er,exec,af.dm,h1,af.dn];rfl,h2⟩
 |me op x y=>
  simp only[dU] at h
  obtain⟨t,z,h1,h2⟩:=aeC h
  exact⟨_,by simp only[cE.er,exec,af.dm,h1,af.dn];rfl,h2⟩
 |un op x=>
  simp only[dU] at h
  obtain⟨t,z,h1,h2⟩:=aqt h
  exact⟨_,by simp only[cE.er,exec,af.dm,h1,af.dn];rfl,h2⟩
 |conv kd x=>
  simp only[dU] at h
  split at h
  ·rename_i k' n hp
   have be:σ.er.ev x.er=.one (.c (.int k' n)):=by rw[af.dm,hp];rfl
   exact⟨_,by simp only[cE.er,exec,be,af.dn];rfl,h⟩
  ·cases h
 |jC m ts by_ z l c=>
  simp only[dU] at h
  split at h
  ·rename_i n a b ha hb
   rw[eH] at h
   obtain⟨len,hm,h⟩:=h
   unfold qB at hm
   split at hm
   ·rename_i cF
    injection hm with hm
    subst hm
    split at h
    ·rename_i σ1 e
     have i:=af.sH e
     have uh:(σ.er.ev l.er).dh=some a:=by rw[af.dm];exact SV.yQ ha
     have aW:(σ.er.ev c.er).dh=some b:=by rw[af.dm];exact SV.yQ hb
     refine⟨_,?_,h⟩
     have hz:(Ty.aJ ts z).length=ts.length:=Ty.Df ts z
     have eS:(SB.row true m ts (dN a.toNat z)).er=aq.row true m ts.length (List.replicate a.toNat (Ty.aJ ts z)):=by simp[SB.er,dN,List.map_replicate]
     have OM:a<=b/\0<=a/\b.toNat*by_<=dA/\(Ty.aJ ts z).length=ts.length:=⟨cF.1,cF.2.1,cF.2.2,hz⟩
     simp only[cE.er,exec,uh,aW,if_pos OM,<-eS,i,af.dn]
     rfl
    ·cases h
   ·cases hm
  ·cases h
 |slice sz x lo hi=>
  simp only[dU] at h
  split at h
  ·rename_i n s l0 len l hp el
   have be:σ.er.ev x.er=.one (.sl n s l0 len):=by rw[af.dm,hp];rfl
   split at h
   ·rename_i hh eh
    have br:=(bc h).1;replace h:=(bc h).2;subst br
    have hb:=(bZ h).1;replace h:=(bZ h).2
    rw[eH] at h
    obtain⟨p,hs,h⟩:=h
    unfold f7 at hs
    split at hs
    ·rename_i cF
     injection hs with hs
     subst hs
     refine⟨_,?_,h⟩
     have ul:s=s/\0<=l/\l<=hh/\hh<=len/\(σ.er.h n).isSome=true:=⟨rfl,cF.1,cF.2.1,cF.2.2,AF hb⟩
     have e1:=JR el
     have e2:=JR eh
     rw[af.dn]
     cases lo with
     |none=>
      simp only[Option.map_none,Option.some.injEq] at e1
      subst e1
      cases hi with
      |none=>
       simp only[Option.map_none,Option.some.injEq] at e2
       subst e2
       simp only[cE.er,exec,be,Option.map_none]
       exact if_pos ⟨trivial,ul.2⟩
      |some q=>
       simp only[Option.map_some] at e2
       simp only[cE.er,exec,be,Option.map_none,Option.map_some,e2]
       exact if_pos ⟨trivial,ul.2⟩
     |some q0=>
      simp only[Option.map_some] at e1
      cases hi with
      |none=>
       simp only[Option.map_none,Option.some.injEq] at e2
       subst e2
       simp only[cE.er,exec,be,Option.map_none,Option.map_some,e1]
       exact if_pos ⟨trivial,ul.2⟩
      |some q=>
       simp only[Option.map_some] at e2
       simp only[cE.er,exec,be,Option.map_some,e1,e2]
       exact if_pos ⟨trivial,ul.2⟩
    ·cases hs
   ·cases h
  ·rename_i ts xs l hp el
   have be:σ.er.ev x.er=.one (.c (.list ts.length (List.map (Ty.aJ ts) xs))):=by rw[af.dm,hp];rfl
   split at h
   ·rename_i hh eh
    have br:=(bc h).1;replace h:=(bc h).2;subst br
    rw[eH] at h
    obtain⟨p,hs,h⟩:=h
    unfold f7 at hs
    split at hs
    ·rename_i cF
     injection hs with hs
     subst hs
     refine⟨_,?_,h⟩
     have ul:ts.length=ts.length/\0<=l/\l<=hh/\hh<=(List.map (Ty.aJ ts) xs).length:=⟨rfl,cF.1,cF.2.1,Int.le_trans cF.2.2 (Int.le_of_eq (congrArg _ (List.length_map (Ty.aJ ts)).symm))⟩
     have e1:=JR el
     have e2:(match hi.map cz.er with|none=>some (((List.map (Ty.aJ ts) xs).length:Nat):Int)|some q=>(σ.er.ev q).dh)=some hh:=by rw[show(List.map (Ty.aJ ts) xs).length=List.length (α:=Ty.DL ts) xs from List.length_map (Ty.aJ ts)];exact JR eh
     rw[af.dn]
     have I2:List.map (Ty.aJ ts) (List.take (hh - l).toNat (List.drop (α:=Ty.DL ts) l.toNat xs))=((List.map (Ty.aJ ts) xs).drop l.toNat).take (hh - l).toNat:=by
      rw[List.map_take]
      exact congrArg (List.take (hh - l).toNat) List.map_drop
     refine Eq.trans ?_ (congrArg (fun q=>some (σ.er.put d (aj.one (.c (.list ts.length q))))) I2.symm)
     cases lo with
     |none=>
      simp only[Option.map_none,Option.some.injEq] at e1
      subst e1
      cases hi with
      |none=>
       simp only[Option.map_none,Option.some.injEq] at e2
       subst e2
       simp only[cE.er,exec,be,Option.map_none]
       exact if_pos ⟨trivial,ul.2⟩
      |some q=>
       simp only[Option.map_some] at e2
       simp only[cE.er,exec,be,Option.map_none,Option.map_some,e2]
       exact if_pos ⟨trivial,ul.2⟩
     |some q0=>
      simp only[Option.map_some] at e1
      cases hi with
      |none=>
       simp only[Option.map_none,Option.some.injEq] at e2
       subst e2
       simp only[cE.er,exec,be,Option.map_none,Option.map_some,e1]
       exact if_pos ⟨trivial,ul.2⟩
      |some q=>
       simp only[Option.map_some] at e2
       simp only[cE.er,exec,be,Option.map_some,e1,e2]
       exact if_pos ⟨trivial,ul.2⟩
    ·cases hs
   ·cases h
  ·cases h
 |tail sz x lo=>
  simp only[dU] at h
  split at h
  ·rename_i n a0 s l0 len l hp hl
   have be:σ.er.ev x.er=.one (.sl a0 s l0 len):=by rw[af.dm,hp];rfl
   have dR:(σ.er.ev lo.er).dh=some l:=by rw[af.dm];exact SV.yQ hl
   split at h
   ·rename_i m ts xs hn
    have br:=(bc h).1;replace h:=(bc h).2;subst br
    have br:=(bc h).1;replace h:=(bc h).2;subst br
    have br:=(bc h).1;replace h:=(bc h).2;subst br
    rw[eH] at h
    obtain⟨_,hf,h⟩:=h
    obtain⟨_,hlen⟩:=Ov hf
    rw[eH] at h
    obtain⟨p,hs,h⟩:=h
    unfold f7 at hs
    split at hs
    ·rename_i cF
     injection hs with hs
     subst hs
     simp only at h
     split at h
     ·rename_i σ1 e1
      refine⟨_,?_,h⟩
      have ah2:len=xs.length:=hlen
      have Zv:0<=l/\l<=(xs.length:Int):=⟨cF.1,cF.2.1⟩
      have bk:σ.er.h a0=some (.row true m ts.length (List.map (Ty.aJ ts) xs)):=by simp[af.er,cR,hn,SB.er]
      have i1:=af.sH e1
      have e2:(aI (J xs) - l).toNat=xs.length - l.toNat:=by simp only[aI,J];omega
      have e3:fe xs l.toNat (aI (J xs) - l).toNat=xs.drop l.toNat:=by rw[e2];unfold fe;rw[List.take_of_length_le (by simp)]
      rw[e3] at i1
      simp only[SB.er,af.Io,List.map_drop] at i1
      simp only[cE.er,exec,be,dR,bk,List.length_map,ah2,Zv.1,Zv.2,and_self,if_true,i1,af.dn,SV.er,SC.er,e2]
     ·cases h
    ·cases hs
   ·cases h
  ·cases h
 |ao off x=>
  simp only[dU] at h
  split at h
  ·rename_i n kk sz o hp
   have hb:=(bZ h).1;replace h:=(bZ h).2
   have be:σ.er.ev x.er=.one (.ptr n kk sz o):=by rw[af.dm,hp];rfl
   exact⟨_,by simp only[cE.er,exec,be,AF hb,if_true,af.dn];rfl,h⟩
  ·rename_i ts y o hp
   have be:σ.er.ev x.er=.one (.cj (Ty.aJ ts y) o):=by rw[af.dm,hp];rfl
   exact⟨_,by simp only[cE.er,exec,be,af.dn];rfl,h⟩
  ·cases h
 |bm sz x i=>
  simp only[dU] at h
  split at h
  ·rename_i n s lo len j hp hi
   have br:=(bc h).1;replace h:=(bc h).2;subst br
   have hb:=(bZ h).1;replace h:=(bZ h).2
   rw[eH] at h
   obtain⟨q,hq,h⟩:=h
   unfold da at hq
   split at hq
   ·rename_i cF
    injection hq with hq
    subst hq
    have be:σ.er.ev x.er=.one (.sl n s lo len):=by rw[af.dm,hp];rfl
    have hi':(σ.er.ev i.er).dh=some j:=by rw[af.dm];exact SV.yQ hi
    refine⟨_,?_,h⟩
    have OM:s=s/\0<=j/\j<len/\(σ.er.h n).isSome=true:=⟨rfl,cF.1,cF.2,AF hb⟩
    simp only[cE.er,exec,be,hi',af.dn]
    exact if_pos ⟨trivial,OM.2⟩
   ·cases hq
  ·rename_i ts xs j hp hi
   have br:=(bc h).1;replace h:=(bc h).2;subst br
   rw[eH] at h
   obtain⟨e,he,h⟩:=h
   unfold dd at he
   split at he
   ·rename_i cF
    have be:σ.er.ev x.er=.one (.c (.list ts.length (List.map (Ty.aJ ts) xs))):=by rw[af.dm,hp];rfl
    have hi':(σ.er.ev i.er).dh=some j:=by rw[af.dm];exact SV.yQ hi
    have nc:(List.map (Ty.aJ ts) xs)[j.toNat]? =some (Ty.aJ ts e):=akz (Ty.aJ ts) he
    refine⟨_,?_,h⟩
    simp only[cE.er,exec,be,hi',cF,and_self,if_true,nc,af.dn]
    rfl
   ·cases he
  ·rename_i n kk aD off s len j hp hi
   obtain⟨t,y,h1,h2⟩:=Ct h
   have be:σ.er.ev x.er=.one (.bx n kk aD off s len):=by rw[af.dm,hp];rfl
   have hi':(σ.er.ev i.er).dh=some j:=by rw[af.dm];exact SV.yQ hi
   have jM:bU σ.er.h (.bx n kk aD off s len)=some (t.er y):=h1
   split at h2
   ·rename_i ts ys
    have br:=(bc h2).1;replace h2:=(bc h2).2;subst br
    rw[eH] at h2
    obtain⟨q,hq,h2⟩:=h2
    unfold da at hq
    split at hq
    ·rename_i cF
     injection hq with hq
     subst hq
     refine⟨_,?_,h2⟩
     simp only[cE.er,exec,be,hi',jM,Ty.er,af.dn]
     exact if_pos ⟨trivial,cF.1,by rw[show(List.map (Ty.aJ ts) ys).length=J (α:=Ty.DL ts) ys from List.length_map (Ty.aJ ts)];exact cF.2⟩
    ·cases hq
   ·cases h2
  ·cases h
 |ext i x=>
  simp only[dU] at h
  split at h
  ·rename_i xs hp
   split at h
   ·rename_i ag cs hg
    have be:σ.er.ev x.er=.bo (xs.map fun x=>(x.1,x.2.map SC.er)):=by rw[af.dm,hp];rfl
    refine⟨_,?_,h⟩
    simp only[cE.er,exec,be,List.getElem?_map,hg,Option.map_some,af.dn,Cu]
   ·cases h
  ·cases h
 |oM ag off sz x=>
  simp only[dU] at h
  split at h
  ·rename_i cs hp
   have be:σ.er.ev x.er=.agg (cs.map SC.er):=by rw[af.dm,hp];rfl
   split at h
   ·rename_i l hl
    exact⟨_,by simp only[cE.er,exec,be,tw,hl,Option.map_some,af.dn,Cu],h⟩
   ·cases h
  ·cases h
 |ou f bN x=>
  simp only[dU] at h
  split at h
  ·rename_i n sz lo len hp
   have hb:=(bZ h).1;replace h:=(bZ h).2
   have be:σ.er.ev x.er=.one (.sl n sz lo len):=by rw[af.dm,hp];rfl
   refine⟨_,?_,h⟩
   simp only[cE.er,exec,be,AF hb,if_true,af.dn]
   rw[show(SV.agg (tv bN (aI len) (.sl n sz lo len))).er=.agg ((tv bN (aI len) (.sl n sz lo len)).map SC.er) from rfl,V1]
   rfl
  ·rename_i ts xs hp
   have be:σ.er.ev x.er=.one (.c (.list ts.length (List.map (α:=Ty.DL ts) (Ty.aJ ts) xs))):=by rw[af.dm,hp];rfl
   refine⟨_,?_,h⟩
   simp only[cE.er,exec,be,af.dn]
   rw[show(SV.agg (tv bN (aI (J (α:=Ty.DL ts) xs)) (.v (.list ts) xs))).er=.agg ((tv bN (aI (J (α:=Ty.DL ts) xs)) (.v (.list ts) xs)).map SC.er) from rfl,V1]
   congr 3
   congr 1
   exact congrArg Int.ofNat (List.length_map (as:=(xs:List (Ty.DL ts))) (Ty.aJ ts))
  ·rename_i ts hp
   have be:σ.er.ev x.er=.one (.nil ts.length):=by rw[af.dm,hp];rfl
   refine⟨_,?_,h⟩
   simp only[cE.er,exec,be,af.dn]
   rw[show(SV.agg (tv bN (0:Int) (.nil ts))).er=.agg ((tv bN (0:Int) (.nil ts)).map SC.er) from rfl,V1]
   rfl
  ·cases h
 |len x=>
  simp only[dU] at h
  split at h
  ·rename_i n sz lo len hp
   have hb:=(bZ h).1;replace h:=(bZ h).2
   have be:σ.er.ev x.er=.one (.sl n sz lo len):=by rw[af.dm,hp];rfl
   exact⟨_,by simp only[cE.er,exec,be,AF hb,if_true,af.dn];rfl,h⟩
  ·rename_i ts xs hp
   have be:σ.er.ev x.er=.one (.c (.list ts.length (List.map (Ty.aJ ts) xs))):=by rw[af.dm,hp];rfl
   exact⟨_,by simp only[cE.er,exec,be,af.dn];exact congrArg (fun q:Nat=>some (σ.er.put d (aj.one (.c (.int .i64 (q:Int)))))) (List.length_map (Ty.aJ ts)),h⟩
  ·rename_i ts hp
   have be:σ.er.ev x.er=.one (.nil ts.length):=by rw[af.dm,hp];rfl
   exact⟨_,by simp only[cE.er,exec,be,af.dn];rfl,h⟩
  ·rename_i n kk aD off sz len hp
   obtain⟨t,y,h1,h2⟩:=Ct h
   have be:σ.er.ev x.er=.one (.bx n kk aD off sz len):=by rw[af.dm,hp];rfl
   have jM:bU σ.er.h (.bx n kk aD off sz len)=some (t.er y):=h1
   split at h2
   ·rename_i ts ys
    exact⟨_,by simp only[cE.er,exec,be,jM,Ty.er,af.dn];exact congrArg (fun q:Nat=>some (σ.er.put d (aj.one (.c (.int .i64 (q:Int)))))) (List.length_map (Ty.aJ ts)),h2⟩
   ·cases h2
  ·cases h
 |append fl ts by_ x y=>
  simp only[dU] at h
  split at h
  ·cases h
  ·rename_i n
   obtain⟨xs,m,σ1,h1,h2⟩:=apo h
   obtain⟨ys,m2,σ2,h3,h4⟩:=app h2
   rw[eH] at h4
   obtain⟨_,hf,h4⟩:=h4
   unfold jL at hf
   split at hf
   ·rename_i hb
    split at h4
    ·rename_i gD e
     have i:=af.sH e
     refine⟨_,?_,h4⟩
     replace hb:(xs.length+ys.length)*by_<=dA:=hb
     have eS:(SB.row true m2 ts (dP xs ys)).er=aq.row true m2 ts.length (List.map (Ty.aJ ts) xs++List.map (Ty.aJ ts) ys):=by simp[SB.er,dP]
     simp only[cE.er,exec,af.dm,h1,h3,List.length_map,hb,if_true,<-eS,i,af.dn]
     rfl
    ·cases h4
   ·cases hf
 |mm mx x y=>
  simp only[dU] at h
  split at h
  ·rename_i kd a kd' b ex ey
   have Yu:σ.er.ev x.er=.one (.c (.int kd a)):=by rw[af.dm,ex];rfl
   have YJ:σ.er.ev y.er=.one (.c (.int kd' b)):=by rw[af.dm,ey];rfl
   split at h
   ·refine⟨_,?_,h⟩
    rw[af.dn]
    simp only[cE.er,exec,Yu,YJ,if_true]
    by_cases eR:LT.lt (α:=Int) a b
    ·exact(if_pos eR).trans (congrArg (fun q:Int=>some (σ.er.put d (aj.one (.c (.int kd q))))) (if_pos eR:QB a b=b).symm)
    ·exact(if_neg eR).trans (congrArg (fun q:Int=>some (σ.er.put d (aj.one (.c (.int kd q))))) (if_neg eR:QB a b=a).symm)
   ·refine⟨_,?_,h⟩
    rw[af.dn]
    simp only[cE.er,exec,Yu,YJ,Bool.false_eq_true,if_false]
    by_cases eR:LT.lt (α:=Int) b a
    ·exact(if_pos eR).trans (congrArg (fun q:Int=>some (σ.er.put d (aj.one (.c (.int kd q))))) (if_pos eR:BC a b=b).symm)
    ·exact(if_neg eR).trans (congrArg (fun q:Int=>some (σ.er.put d (aj.one (.c (.int kd q))))) (if_neg eR:BC a b=a).symm)
  ·cases h
 |call m f xs=>
  simp only[dU] at h
  obtain⟨σ1,h1,h2⟩:=acD h
  exact⟨σ1,by simp only[cE.er,exec,tZ];exact h1,h2⟩
 |copy x y=>
  simp only[dU] at h
  split at h
  ·rename_i n s lo len c hp hq
   split at h
   ·rename_i gr m ts xs hn
    have br:=(bc h).1;replace h:=(bc h).2;subst br
    have ht:=(bc h).1;replace h:=(bc h).2
    have hb:=(bZ h).1;replace h:=(bZ h).2
    simp only[Bool.and_eq_true] at hb
    obtain⟨u,ys,h1,h2⟩:=Ct h
    split at h2
    ·rename_i us ys
     split at h2
     ·rename_i zs hz
      rw[eH] at h2
      obtain⟨ar,hc,h2⟩:=h2
      refine⟨_,?_,h2⟩
      have be:σ.er.ev x.er=.one (.sl n 1 lo len):=by rw[af.dm,hp];rfl
      have ez:σ.er.ev y.er=.one c.er:=by rw[af.dm,hq];rfl
      have rG:Ty.er (.list us) ys=Ty.er (.list ts) zs:=by
       have:=Ty.aeL hz
       exact this
      have jM:bU σ.er.h c.er=some (.list ts.length (List.map (Ty.aJ ts) zs)):=by
       have:bU σ.er.h c.er=some (Ty.er (.list us) ys):=h1
       rw[this,rG];rfl
      obtain⟨c1,c2⟩:=XY hc
      have g7:m≠ .aO:=by rintro rfl;exact absurd hb.1 (by simp[Mode.own])
      simp only[cE.er,exec,be,ez,Dh hn,SB.er,jM]
      rw[if_pos ⟨trivial,trivial,ht,ht,g7,zm ts xs hb.2,zm ts zs hb.2,by rw[List.length_map];exact c1⟩]
      rw[af.dn,af.oJ]
      simp only[SB.er,c2,ht]
      rw[show List.map (Ty.aJ ts) (List.take (α:=Ty.DL ts) len zs)=List.take len (List.map (Ty.aJ ts) zs) from List.map_take,show(List.map (Ty.aJ ts) zs).length=J (α:=Ty.DL ts) zs from List.length_map _]
      rfl
     ·cases h2
    ·cases h2
   ·cases h
  ·cases h
 |kB t z x=>
  simp only[dU] at h
  split at h
  ·rename_i n s lo len hp
   split at h
   ·rename_i gr m ts xs hn
    have br:=(bc h).1;replace h:=(bc h).2;subst br
    have hb:=(bZ h).1;replace h:=(bZ h).2
    simp only[Bool.and_eq_true] at hb
    split at h
    ·rename_i e he
     rw[eH] at h
     obtain⟨ar,hc,h⟩:=h
     refine⟨_,?_,h⟩
     have be:σ.er.ev x.er=.one (.sl n 1 lo len):=by rw[af.dm,hp];rfl
     have lJ:Ty.aJ ts e=[t.er z]:=wS he
     have hlen:ts.length=1:=by
      have:=congrArg List.length lJ
      rw[Ty.Df] at this
      exact this
     have sW:Ty.fq ts=true:=by
      have:=Ty.Kc ts e
      rw[lJ] at this
      simp only[Am.fq,List.all_cons,List.all_nil,Bool.and_true,Ty.xg,hb.2] at this
      exact this.symm
     obtain⟨c1,c2⟩:=XY hc
     have g7:m≠ .aO:=by rintro rfl;exact absurd hb.1 (by simp[Mode.own])
     simp only[cE.er,exec,be,Dh hn,SB.er]
     rw[if_pos ⟨trivial,hlen,by rw[Ty.xg];exact hb.2,g7,zm ts xs sW,by rw[List.length_map];exact c1⟩]
     rw[af.dn,af.oJ]
     simp only[SB.er,c2,hlen,dN,List.map_replicate,lJ]
     rfl
    ·cases h
   ·cases h
  ·cases h
 |mf f xs=>
  simp only[dU] at h
  obtain⟨v,h1,h2⟩:=apv h
  refine⟨_,?_,h2⟩
  simp only[cE.er,exec,tZ]
  rw[h1]
  simp only[af.dn]
 |pf f xs=>
  simp only[dU] at h
  split at h
  ·rename_i cs hc
   obtain⟨h1,h2⟩:=acZ hc
   refine⟨_,?_,h⟩
   simp only[cE.er,exec,tZ]
   split
   ·rename_i cs' e
    have e2:some cs'=some (cs.map SC.er):=e.symm.trans h1
    injection e2 with e2
    subst e2
    rw[if_pos h2,af.dn]
    simp only[SV.er,SC.er,SC.Di]
   ·rename_i e
    have e2:none=some (cs.map SC.er):=e.symm.trans h1
    cases e2
  ·cases h
 |eN m f xs=>
  simp only[dU] at h
  obtain⟨σ1,h1,h2⟩:=apw h
  exact⟨σ1,by simp only[cE.er,exec,tZ];exact h1,h2⟩
 |jh f xs=>
  simp only[dU] at h
  obtain⟨σ1,h1,h2⟩:=apu h
  exact⟨σ1,by simp only[cE.er,exec,tZ];exact h1,h2⟩
 |lv f xs=>
  simp only[dU] at h
  obtain⟨v,h1,h2⟩:=apx h
  exact⟨σ.put d v,by simp only[cE.er,exec,tZ,h1,af.dn],h2⟩
 |mh f xs=>
  simp only[dU] at h
  obtain⟨v,h1,h2⟩:=apy h
  exact⟨σ.put d v,by simp only[cE.er,exec,tZ,h1,af.dn],h2⟩
 |mg m x xs=>
  simp only[dU] at h
  split at h
  ·rename_i f cf hp
   have be:σ.er.ev x.er=.one (.fn f (cf.map SC.er)):=by rw[af.dm,hp];simp only[SV.er,SC.er,SC.Di]
   obtain⟨σ1,h1,h2⟩:=acD h
   refine⟨σ1,?_,h2⟩
   simp only[cE.er,exec,be,tZ]
   rw[List.map_append] at h1
   simp only[List.map_map] at h1⊢
   exact h1
  ·cases h
structure eY where
 dst:Option Nat
 op:cE
 guard:Option (Nat×Bool)
def eY.er (o:eY):bK:=⟨o.dst,o.op.er,o.guard⟩
def af.lit (σ:af) (n:Nat) (b:Bool):af:={σ with env:=ax σ.env n (.one (.v .bool b))}
theorem af.Dg {σ:af} {n:Nat} {b:Bool} (h:σ.env n=.one (.v .bool b)):(σ.lit n b).er=σ.er:=by
 have:ax σ.env n (.one (.v .bool b))=σ.env:=by
  funext s
  simp only[iO]
  split
  ·rename_i hs;subst hs;exact h.symm
  ·rfl
 simp only[af.lit,this]
def qN (T:List au):List eY->af->(af->Option ρ)->Option ρ
 |[],σ,k=>k σ
 |o::os,σ,k=>match o.guard with
  |none=>dU T o.dst o.op σ fun σ1=>qN T os σ1 k
  |some (s,kx)=>match σ.env s with
   |.one (.v .bool b)=>ak b
    (match kx with
     |true=>dU T o.dst o.op (σ.lit s true) fun σ1=>qN T os σ1 k
     |false=>qN T os ((σ.lit s true).put o.dst (.bo [])) k)
    (match kx with
     |true=>qN T os ((σ.lit s false).put o.dst (.bo [])) k
     |false=>dU T o.dst o.op (σ.lit s false) fun σ1=>qN T os σ1 k)
   |.bo []=>qN T os (σ.put o.dst (.bo [])) k
   |_=>none
theorem Vy {T:List au}:∀{os:List eY} {σ:af} {k:af->Option ρ} {r:ρ},qN T os σ k=some r->
  ∃σ1:af,j8 (cH T) (os.map eY.er) σ.er=some σ1.er/\k σ1=some r
 |[],σ,k,r,h=>⟨σ,rfl,h⟩
 |o::os,σ,k,r,h=>by
  obtain⟨d,op,g⟩:=o
  have run:∀jJ:af,jJ.er=σ.er->d8 (cH T) (eY.er ⟨d,op,g⟩) σ.er=exec (cH T) d op.er σ.er->dU T d op jJ (fun σ1=>qN T os σ1 k)=some r->
    ∃σ1:af,j8 (cH T) ((⟨d,op,g⟩::os).map eY.er) σ.er=some σ1.er/\k σ1=some r:=by
   intro jJ h0 he hs
   obtain⟨σ1,h1,h2⟩:=acI hs
   obtain⟨σ2,h3,h4⟩:=Vy h2
   rw[h0] at h1
   exact⟨σ2,by simp only[List.map_cons,j8,he,h1,h3],h4⟩
  have zp:∀jJ:af,jJ.er=σ.er->d8 (cH T) (eY.er ⟨d,op,g⟩) σ.er=some (σ.er.put d (.bo []))->qN T os (jJ.put d (.bo [])) k=some r->
    ∃σ1:af,j8 (cH T) ((⟨d,op,g⟩::os).map eY.er) σ.er=some σ1.er/\k σ1=some r:=by
   intro jJ h0 he hs
   obtain⟨σ2,h3,h4⟩:=Vy hs
   rw[af.dn,h0] at h3
   exact⟨σ2,by simp only[List.map_cons,j8,he];exact h3,h4⟩
  cases g with
  |none=>exact run σ rfl rfl h
  |some g=>
   obtain⟨s,kx⟩:=g
   simp only[qN] at h
   split at h
   ·rename_i b hs
    have jQ:σ.er.env s=.one (.c (.bool b)):=by show(σ.env s).er=_;rw[hs];rfl
    cases hb:(b:Bool) with
    |true=>
     have h0:(σ.lit s true).er=σ.er:=af.Dg (by rw[hs,hb])
     rw[hb] at h
     simp only[ML] at h
     cases kx with
     |true=>exact run _ h0 (by simp[d8,eY.er,jQ,hb]) h
     |false=>exact zp _ h0 (by simp[d8,eY.er,jQ,hb]) h
    |false=>
     have h0:(σ.lit s false).er=σ.er:=af.Dg (by rw[hs,hb])
     rw[hb] at h
     simp only[H4] at h
     cases kx with
     |true=>exact zp _ h0 (by simp[d8,eY.er,jQ,hb]) h
     |false=>exact run _ h0 (by simp[d8,eY.er,jQ,hb]) h
   ·rename_i hs
    have jQ:σ.er.env s=.bo []:=by show(σ.env s).er=_;rw[hs];rfl
    exact zp σ rfl (by simp[d8,eY.er,jQ]) h
   ·cases h
def qO (T:List au) (ps:List (Nat×Nat)):List eY->List (Option FP)->af->(af->Option ρ)->Option ρ
 |[],cL,σ,k=>eP (wZ ps cL) (k σ)
 |o::os,cL,σ,k=>match o.guard with
  |none=>dU T o.dst o.op σ fun σ1=>qO T ps os (cL++[o.er.fp σ.er]) σ1 k
  |some (s,kx)=>match σ.env s with
   |.one (.v .bool b)=>ak b
    (match kx with
     |true=>dU T o.dst o.op (σ.lit s true) fun σ1=>qO T ps os (cL++[o.er.fp (σ.lit s true).er]) σ1 k
     |false=>qO T ps os (cL++[o.er.fp (σ.lit s true).er]) ((σ.lit s true).put o.dst (.bo [])) k)
    (match kx with
     |true=>qO T ps os (cL++[o.er.fp (σ.lit s false).er]) ((σ.lit s false).put o.dst (.bo [])) k
     |false=>dU T o.dst o.op (σ.lit s false) fun σ1=>qO T ps os (cL++[o.er.fp (σ.lit s false).er]) σ1 k)
   |.bo []=>qO T ps os (cL++[o.er.fp σ.er]) (σ.put o.dst (.bo [])) k
   |_=>none
theorem Vx {T:List au} {ps:List (Nat×Nat)}:∀{os:List eY} {cL:List (Option FP)} {σ:af} {k:af->Option ρ} {r:ρ},qO T ps os cL σ k=some r->
  ∃(σ1:af) (fs:List (Option FP)),mr (cH T) (os.map eY.er) cL σ.er=some (fs,σ1.er)/\wZ ps fs=true/\k σ1=some r
 |[],cL,σ,k,r,h=>⟨σ,cL,rfl,(bZ h).1,(bZ h).2⟩
 |o::os,cL,σ,k,r,h=>by
  obtain⟨d,op,g⟩:=o
  have run:∀jJ:af,jJ.er=σ.er->d8 (cH T) (eY.er ⟨d,op,g⟩) σ.er=exec (cH T) d op.er σ.er->dU T d op jJ (fun σ1=>qO T ps os (cL++[(eY.er ⟨d,op,g⟩).fp jJ.er]) σ1 k)=some r->
    ∃(σ1:af) (fs:List (Option FP)),mr (cH T) ((⟨d,op,g⟩::os).map eY.er) cL σ.er=some (fs,σ1.er)/\wZ ps fs=true/\k σ1=some r:=by
   intro jJ h0 he hs
   obtain⟨σ1,h1,h2⟩:=acI hs
   obtain⟨σ2,fs,h3,h4⟩:=Vx h2
   rw[h0] at h1 h3
   exact⟨σ2,fs,by simp only[List.map_cons,mr,he,h1,h3],h4⟩
  have zp:∀jJ:af,jJ.er=σ.er->d8 (cH T) (eY.er ⟨d,op,g⟩) σ.er=some (σ.er.put d (.bo []))->qO T ps os (cL++[(eY.er ⟨d,op,g⟩).fp jJ.er]) (jJ.put d (.bo [])) k=some r->
    ∃(σ1:af) (fs:List (Option FP)),mr (cH T) ((⟨d,op,g⟩::os).map eY.er) cL σ.er=some (fs,σ1.er)/\wZ ps fs=true/\k σ1=some r:=by
   intro jJ h0 he hs
   obtain⟨σ2,fs,h3,h4⟩:=Vx hs
   rw[af.dn,h0] at h3
   exact⟨σ2,fs,by simp only[List.map_cons,mr,he];exact h3,h4⟩
  cases g with
  |none=>exact run σ rfl rfl h
  |some g=>
   obtain⟨s,kx⟩:=g
   simp only[qO] at h
   split at h
   ·rename_i b hs
    have jQ:σ.er.env s=.one (.c (.bool b)):=by show(σ.env s).er=_;rw[hs];rfl
    cases hb:(b:Bool) with
    |true=>
     have h0:(σ.lit s true).er=σ.er:=af.Dg (by rw[hs,hb])
     rw[hb] at h
     simp only[ML] at h
     cases kx with
     |true=>exact run _ h0 (by simp[d8,eY.er,jQ,hb]) h
     |false=>exact zp _ h0 (by simp[d8,eY.er,jQ,hb]) h
    |false=>
     have h0:(σ.lit s false).er=σ.er:=af.Dg (by rw[hs,hb])
     rw[hb] at h
     simp only[H4] at h
     cases kx with
     |true=>exact zp _ h0 (by simp[d8,eY.er,jQ,hb]) h
     |false=>exact run _ h0 (by simp[d8,eY.er,jQ,hb]) h
   ·rename_i hs
    have jQ:σ.er.env s=.bo []:=by show(σ.env s).er=_;rw[hs];rfl
    exact zp σ rfl (by simp[d8,eY.er,jQ]) h
   ·cases h
end
end Go.Am
