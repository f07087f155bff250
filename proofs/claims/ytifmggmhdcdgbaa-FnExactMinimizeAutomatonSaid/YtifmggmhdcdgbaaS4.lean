/- S4: operations of the typed evaluator. No condition. -/
import Derived.Test.YtifmggmhdcdgbaaS3
set_option linter.unusedVariables false
namespace Go.Am
theorem agm {α β:Type} (f:α->β) {l:List α} {i:Nat} {e:α} (h:l[i]? =some e):(l.map f)[i]? =some (f e):=by rw[List.getElem?_map,h];rfl
section
variable {ρ:Type}
def Iu:Bool->Mode
 |true=>.aa
 |false=>.aF
theorem aiI (o:Bool):(if o=true then Mode.aa else .aF)=Iu o:=by cases o<;>rfl
def Is (σ:af) (d:Int) (o:Option cD):Option Int:=
 match o with
 |none=>some d
 |some q=>(σ.ev q).dc
theorem It {σ:af} {d l:Int} {o:Option cD} (h:Is σ d o=some l):(match o.map cD.er with|none=>some d|some q=>(σ.er.ev q).dc)=some l:=by
 cases o with
 |none=>exact h
 |some q=>simp only[Option.map_some,af.dk];exact SV.x9 h
def s6 (bM:Bool) (n:Int) (c:SC):List SC:=match bM with
 |true=>[.v (.int .i64) n,.v (.int .i64) (1:Int),c]
 |false=>[.v (.int .i64) (1:Int),.v (.int .i64) n,c]
theorem SQ (bM:Bool) (n:Int) (c:SC):(s6 bM n c).map SC.er=lf bM n c.er:=by cases bM<;>rfl
def yD:List SC->Option (List TD)
 |[]=>some []
 |.v t x::l=>match t.eD with
  |true=>match yD l with
   |some ds=>some (⟨t,x⟩::ds)
   |none=>none
  |false=>none
 |_::_=>none
theorem Y6:∀{vs:List SC} {ds:List TD},yD vs=some ds->lF (vs.map SC.er)=some (cj ds)
 |[],ds,h=>by simp only[yD] at h;injection h with h;subst h;rfl
 |c::vs,ds,h=>by
  cases c with
  |v t x=>
   simp only[yD] at h
   split at h
   ·rename_i hs
    split at h
    ·rename_i l hl
     injection h with h
     subst h
     simp only[List.map_cons,SC.er,lF,Ty.wC,hs,if_true,Y6 hl,cj,Option.map_some]
    ·cases h
   ·cases h
  |_=>simp[yD] at h
def SS (us:List Ty) (e:Ty.DL us) (off s i:Nat) (vs:List SC) (k:Ty.DL us->Option ρ):Option ρ:=
 match(Ty.gW us e)[off]? with
 |some ⟨.list ts,ys⟩=>cC ts.length s (cC vs.length s (eS (Ty.fi ts) ((dg (α:=Ty.DL ts) ys i).U fun _=>match yD vs with
  |some ds=>match qm ts ds with
   |some el=>match IY us e off ⟨.list ts,bI (α:=Ty.DL ts) ys i el⟩ with
    |some e'=>k e'
    |none=>none
   |none=>none
  |none=>none)))
 |_=>none
theorem akl {us ts:List Ty} {xs:List (Ty.DL us)} {kk off i:Nat} {e e':Ty.DL us} {vs:List SC} {ds:List TD} {el y0:Ty.DL ts} (ys:List (Ty.DL ts)) (he:xs[kk]? =some e) (hd:(Ty.gW us e)[off]? =some ⟨.list ts,ys⟩)
  (iJ:vs.length=ts.length) (hs:Ty.fi ts=true) (hy:ys[i]? =some y0) (ni:yD vs=some ds) (nk:qm ts ds=some el) (xT:IY us e off ⟨.list ts,bI ys i el⟩=some e'):
  uK (List.map (Ty.aH us) xs) kk off ts.length i (vs.map SC.er)=some (List.map (Ty.aH us) (bI xs kk e')):=by
 have np:(Ty.aH us e)[off]? =some (.list ts.length (List.map (Ty.aH ts) ys)):=K6 hd
 have hx:(List.map (Ty.aH us) xs)[kk]? =some (Ty.aH us e):=by rw[List.getElem?_map,he];rfl
 have hi:i<(List.map (Ty.aH ts) ys).length:=by rw[List.length_map];exact(List.getElem?_eq_some_iff.1 hy).1
 have Wo:Ty.aH us e'=(Ty.aH us e).set off (.list ts.length (List.map (Ty.aH ts) (bI ys i el))):=Y9 xT
 unfold uK
 rw[hx,Option.bind_some,np]
 simp only
 rw[if_pos ⟨trivial,by simpa using iJ,hi,yC ts ys hs⟩,Y6 ni,List.getD_eq_getElem?_getD,hx]
 simp only[Option.map_some,Option.getD_some]
 unfold bI at Wo⊢
 rw[List.map_set,Wo,List.map_set,wh nk]
theorem akH {us:List Ty} {xs:List (Ty.DL us)} {kk:Nat} {e:Ty.DL us} {off s i:Nat} {vs:List SC} {k:Ty.DL us->Option ρ} {r:ρ} (he:xs[kk]? =some e) (h:SS us e off s i vs k=some r):
  ∃e',uK (List.map (Ty.aH us) xs) kk off s i (vs.map SC.er)=some (List.map (Ty.aH us) (bI xs kk e'))/\k e'=some r:=by
 unfold SS at h
 split at h
 ·rename_i ts ys hd
  have vu:=(ba h).1;replace h:=(ba h).2
  have tO:=(ba h).1;replace h:=(ba h).2
  have hs:=(bY h).1;replace h:=(bY h).2
  rw[eY] at h
  obtain⟨y0,hy,h⟩:=h
  split at h
  ·rename_i ds ni
   split at h
   ·rename_i el nk
    split at h
    ·rename_i e' xT
     subst vu
     exact⟨e',akl ys he hd tO hs hy ni nk xT,h⟩
    ·cases h
   ·cases h
  ·cases h
 ·cases h
def dZ (T:List aG) (d:Option Nat) (op:cE) (σ:af) (k:af->Option ρ):Option ρ:=
 match op with
 |.mv x=>k (σ.put d (σ.ev x))
 |.pick c x y=>match σ.ev c with
  |.one (.v .bool b)=>match σ.ev x,σ.ev y with
   |.one (.v t x'),.one (.v u y')=>match Ty.cast u t y' with
    |some z=>k (σ.put d (.one (.v t (aw b x' z))))
    |none=>aw b (k (σ.put d (σ.ev x))) (k (σ.put d (σ.ev y)))
   |_,_=>aw b (k (σ.put d (σ.ev x))) (k (σ.put d (σ.ev y)))
  |_=>none
 |.alloc zs=>match d with
  |some n=>match σ.ins n (.box zs) with
   |some σ1=>k (σ1.put d (.one (.ptr n 0 0 0)))
   |none=>none
  |none=>none
 |.box sz x=>match d,(σ.ev x).cells? with
  |some n,some (_,cs)=>cC cs.length sz (match σ.ins n (.box cs) with
   |some σ1=>k (σ1.put d (.one (.ptr n 0 0 0)))
   |none=>none)
  |_,_=>none
 |.build zs parts=>match Ee σ.ev zs parts with
  |some cs=>k (σ.put d (.agg cs))
  |none=>none
 |.d8 ts parts=>match d with
  |some n=>Jf ts σ (parts.map σ.ev) fun es o σ1=>match σ1.ins n (.row true (Iu o) ts es) with
   |some σ2=>k (σ2.put d (.one (.sl n ts.length 0 es.length)))
   |none=>none
  |none=>none
 |.load ag sz x=>match σ.ev x with
  |.one p=>I3 σ.h p sz fun cs=>k (σ.put d (BC ag cs))
  |_=>none
 |.store sz x v=>match σ.ev x,(σ.ev v).cells? with
  |.one (.ptr n kk ax off),some (_,vs)=>cC vs.length sz (match σ.h n with
   |some (.box cs)=>cC kk 0 (eS (Nat.ble (off+sz) cs.length) (k (σ.dv n (.box (bV cs off vs)))))
   |some (.row gr m ts xs)=>cC ax ts.length ((dg xs kk).U fun e=>SU σ n gr m ts xs kk off e vs k)
   |none=>none)
  |.one (.cB n kk ax off s i),some (_,vs)=>cC vs.length sz (match σ.h n with
   |some (.row gr .live us xs)=>cC ax us.length ((dg xs kk).U fun e=>SS us e off s i vs fun e'=>k (σ.dv n (.row gr .live us (bI xs kk e'))))
   |_=>none)
  |_,_=>none
 |.oy x=>match σ.ev x with
  |.one (.ptr n kk sz off)=>eS (σ.h n).isSome (k (σ.put d (.one (.ptr n kk sz off))))
  |.one (.cf ts x off)=>k (σ.put d (.one (.cf ts x off)))
  |_=>none
 |.bin op x y=>KA op (σ.ev x) (σ.ev y) fun t z=>k (σ.put d (.one (.v t z)))
 |.oO op x y=>Kz op (σ.ev x) (σ.ev y) fun t z=>k (σ.put d (.one (.v t z)))
 |.un op x=>Tj op (σ.ev x) fun t z=>k (σ.put d (.one (.v t z)))
 |.conv kd x=>match σ.ev x with
  |.one (.v (.int _) n)=>k (σ.put d (.one (.v (.int kd) (abl kd n))))
  |_=>none
 |.kB m ts by_ z l c=>match d,(σ.ev l).dc,(σ.ev c).dc with
  |some n,some a,some b=>(ov a b by_).U fun len=>match σ.ins n (.row true m ts (cR len z)) with
   |some σ1=>k (σ1.put d (.one (.sl n ts.length 0 len)))
   |none=>none
  |_,_,_=>none
 |.slice sz x lo hi=>
  match σ.ev x,Is σ 0 lo with
  |.one (.sl n s l0 len),some l=>
   match Is σ (aL len) hi with
   |some h=>cC s sz (eS (σ.h n).isSome ((qD l h len).U fun p=>k (σ.put d (.one (.sl n s (aE l0 p.1) p.2)))))
   |none=>none
  |.one (.v (.list ts) xs),some l=>
   match Is σ (aL (J (α:=Ty.DL ts) xs)) hi with
   |some h=>cC ts.length sz ((qD l h (J (α:=Ty.DL ts) xs)).U fun p=>k (σ.put d (.one (.v (.list ts) (fD (α:=Ty.DL ts) xs p.1 p.2)))))
   |none=>none
  |_,_=>none
 |.tail sz x lo=>match d,σ.ev x,(σ.ev lo).dc with
  |some n,.one (.sl a s l0 len),some l=>match σ.h a with
   |some (.row true m ts xs)=>cC s ts.length (cC ts.length sz (cC l0 0 ((ae l0 len (J xs)).U fun _=>(qD l (aL (J xs)) (J xs)).U fun p=>
    match(σ.del a).ins n (.row true m ts (fD xs p.1 p.2)) with
    |some σ1=>k (σ1.put d (.one (.sl n sz 0 p.2)))
    |none=>none)))
   |_=>none
  |_,_,_=>none
 |.ak off x=>match σ.ev x with
  |.one (.ptr n kk sz o)=>eS (σ.h n).isSome (k (σ.put d (.one (.ptr n kk sz (o+off)))))
  |.one (.cf ts x o)=>k (σ.put d (.one (.cf ts x (o+off))))
  |_=>none
 |.bT sz x i=>match σ.ev x,(σ.ev i).dc with
  |.one (.sl n s lo len),some j=>cC s sz (eS (σ.h n).isSome ((dT j len).U fun q=>k (σ.put d (.one (.ptr n (aE lo q) s 0)))))
  |.one (.v (.list ts) xs),some j=>cC ts.length sz ((dz (α:=Ty.DL ts) xs j).U fun e=>k (σ.put d (.one (.cf ts e 0))))
  |.one (.bt n kk ax off s len),some j=>wJ σ.h (.bt n kk ax off s len) fun t x=>match t,x with
   |.list ts,ys=>cC ts.length sz ((dT j (J (α:=Ty.DL ts) ys)).U fun q=>k (σ.put d (.one (.cB n kk ax off sz q))))
   |_,_=>none
  |_,_=>none
 |.ext i x=>match σ.ev x with
  |.bk xs=>match xs[i]? with
   |some (ag,cs)=>k (σ.put d (BC ag cs))
   |none=>none
  |_=>none
 |.nf ag off sz x=>match σ.ev x with
  |.agg cs=>match sub cs off sz with
   |some l=>k (σ.put d (BC ag l))
   |none=>none
  |_=>none
 |.mU f bM x=>match σ.ev x with
  |.one (.sl n sz lo len)=>eS (σ.h n).isSome (k (σ.put d (.agg (s6 bM (aL len) (.sl n sz lo len)))))
  |.one (.v (.list ts) xs)=>k (σ.put d (.agg (s6 bM (aL (J (α:=Ty.DL ts) xs)) (.v (.list ts) xs))))
  |.one (.nil ts)=>k (σ.put d (.agg (s6 bM (0:Int) (.nil ts))))
  |_=>none
 |.len x=>match σ.ev x with
  |.one (.sl n sz lo len)=>eS (σ.h n).isSome (k (σ.put d (.one (.v (.int .i64) (aL len)))))
  |.one (.v (.list ts) xs)=>k (σ.put d (.one (.v (.int .i64) (aL (J (α:=Ty.DL ts) xs)))))
  |.one (.nil ts)=>k (σ.put d (.one (.v (.int .i64) (0:Int))))
  |.one (.bt n kk ax off sz len)=>wJ σ.h (.bt n kk ax off sz len) fun t x=>match t,x with
   |.list ts,ys=>k (σ.put d (.one (.v (.int .i64) (aL (J (α:=Ty.DL ts) ys)))))
   |_,_=>none
  |_=>none
 |.append fl ts by_ x y=>match d with
  |none=>none
  |some n=>Q7 σ ts (σ.ev x) fun xs m σ1=>Q8 fl σ1 ts m (σ.ev y) fun ys m2 σ2=>
   (jV (aE (J xs) (J ys)) by_).U fun _=>match σ2.ins n (.row true m2 ts (cm xs ys)) with
    |some gF=>k (gF.put d (.one (.sl n ts.length 0 (aE (J xs) (J ys)))))
    |none=>none
 |.mm mx x y=>match σ.ev x,σ.ev y with
  |.one (.v (.int kd) a),.one (.v (.int Xi) b)=>match mx with
   |true=>k (σ.put d (.one (.v (.int kd) (Oj a b))))
   |false=>k (σ.put d (.one (.v (.int kd) (Ok a b))))
  |_,_=>none
 |.call m f xs=>IX T m d f (xs.map σ.ev) σ k
 |.mr f xs=>Sl T d f (xs.map σ.ev) σ k
 |.copy x y=>match σ.ev x,σ.ev y with
  |.one (.sl n s lo len),.one c=>match σ.h n with
   |some (.row gr m ts xs)=>cC s 1 (cC ts.length 1 (eS (m.own&&Ty.fi ts) (wJ σ.h c fun u ys=>match u,ys with
    |.list us,ys=>match Ty.cast (.list us) (.list ts) ys with
     |some zs=>(Gy (α:=Ty.DL ts) xs lo len (List.take (α:=Ty.DL ts) len zs)).U fun ar=>k ((σ.dv n (.row gr m ts ar)).put d (.one (.v (.int .i64) (aL (Nat.min (J (α:=Ty.DL ts) zs) len)))))
     |none=>none
    |_,_=>none)))
   |_=>none
  |_,_=>none
 |.kN t z x=>match σ.ev x with
  |.one (.sl n s lo len)=>match σ.h n with
   |some (.row gr m ts xs)=>cC s 1 (eS (m.own&&t.eD) (match qm ts [⟨t,z⟩] with
    |some e=>(Gy (α:=Ty.DL ts) xs lo len (cR len e)).U fun ar=>k ((σ.dv n (.row gr m ts ar)).put d (.bk []))
    |none=>none))
   |_=>none
  |_=>none
 |.pt f xs=>match yG (xs.map σ.ev) with
  |some cs=>k (σ.put d (.one (.fn f cs)))
  |none=>none
 |.mw m x xs=>match σ.ev x with
  |.one (.fn f ca)=>IX T m d f (xs.map σ.ev++ca.map .one) σ k
  |_=>none
 |.e9 m f xs=>Sm T m d f (xs.map σ.ev) σ k
 |.jv f xs=>Sk T d f (xs.map σ.ev) σ k
theorem Ce {σ:af} {n:Nat} {b:SB} (h:σ.h n=some b):σ.er.h n=some b.er:=by simp[af.er,cT,h]
theorem zD {σ:af} {n:Nat} (h:(σ.h n).isSome=true):(σ.er.h n).isSome=true:=by
 simp only[af.er,UW,h]
theorem Tn (t:Ty) (x:t.D):(SV.one (.v t x)).er=.one (.c (t.er x)):=rfl
theorem Uz {ts:List Ty} {xs ar ys:List (Ty.DL ts)} {lo len:Nat} (h:Gy xs lo len ys=some ar):lo+len<=xs.length/\List.map (Ty.aH ts) ar=bV (List.map (Ty.aH ts) xs) lo (List.map (Ty.aH ts) ys):=by
 unfold Gy at h
 split at h
 ·rename_i hc
  injection h with h
  subst h
  exact⟨hc,Bu (Ty.aH ts) xs ys lo⟩
 ·cases h
theorem Ty.aaY {t u:Ty} {x:t.D} {y:u.D} (h:Ty.cast t u x=some y):t.er x=u.er y:=by
 unfold Ty.cast at h
 split at h
 ·rename_i he
  have:=Ty.beq_eq he
  subst this
  injection h with h
  rw[<-h]
 ·cases h
theorem Za {T:List aG} {d:Option Nat} {op:cE} {σ:af} {k:af->Option ρ} {r:ρ} (h:dZ T d op σ k=some r):
  ∃σ1:af,aJ (dm T) d op.er σ.er=some σ1.er/\k σ1=some r:=by
 cases op with
 |mv x=>exact⟨_,by simp only[cE.er,aJ,af.dq,af.dk],h⟩
 |pick c x y=>
  simp only[dZ] at h
  split at h
  ·rename_i b hc
   have cI:σ.er.ev c.er=.one (.c (.bool b)):=by rw[af.dk,hc];rfl
   have cP:∀σ1:af,σ1.er=σ.er.put d (cond b (σ.ev x).er (σ.ev y).er)->aJ (dm T) d (cE.er (.pick c x y)) σ.er=some σ1.er:=by
    intro σ1 e
    simp only[cE.er,aJ,cI,af.dk,e]
    cases b<;>rfl
   have gen:aw b (k (σ.put d (σ.ev x))) (k (σ.put d (σ.ev y)))=some r->∃σ1:af,aJ (dm T) d (cE.er (.pick c x y)) σ.er=some σ1.er/\k σ1=some r:=by
    intro h
    cases hb:(b:Bool) with
    |true=>rw[hb] at h;exact⟨_,cP _ (by rw[af.dq,hb];rfl),h⟩
    |false=>rw[hb] at h;exact⟨_,cP _ (by rw[af.dq,hb];rfl),h⟩
   split at h
   ·rename_i t x' u y' ex ey
    split at h
    ·rename_i z hz
     refine⟨_,cP _ ?_,h⟩
     rw[af.dq,ex,ey,Tn,Tn,Tn,Ty.Ua hz]
     cases (b:Bool)<;>rfl
    ·exact gen h
   ·exact gen h
  ·cases h
 |alloc zs=>
  simp only[dZ] at h
  split at h
  ·rename_i n
   split at h
   ·rename_i σ1 e
    have:=af.sb e
    exact⟨_,by simp only[cE.er,aJ];rw[show aq.box (zs.map SC.er)=(SB.box zs).er from rfl,this,af.dq];rfl,h⟩
   ·cases h
  ·cases h
 |box sz x=>
  simp only[dZ] at h
  split at h
  ·rename_i n b cs hc
   have bm:=(ba h).1;replace h:=(ba h).2;subst bm
   split at h
   ·rename_i σ1 e
    have:=af.sb e
    refine⟨_,?_,h⟩
    simp only[cE.er,aJ,af.dk,SV.mz hc,List.length_map,if_true]
    rw[show aq.box (cs.map SC.er)=(SB.box cs).er from rfl,this,af.dq];rfl
   ·cases h
  ·cases h
 |build zs parts=>
  simp only[dZ] at h
  split at h
  ·rename_i cs hc
   exact⟨_,by simp only[cE.er,aJ,ZK hc,af.dq];rfl,h⟩
  ·cases h
 |d8 ts parts=>
  simp only[dZ] at h
  split at h
  ·rename_i n
   obtain⟨es,o,σ1,h1,h2⟩:=ZL h
   split at h2
   ·rename_i σ2 e
    have i:=af.sb e
    refine⟨_,?_,h2⟩
    simp only[cE.er,aJ,xr,h1,af.dq]
    have:(SB.row true (Iu o) ts es).er=aq.row true (Iu o) ts.length (List.map (Ty.aH ts) es):=rfl
    rw[aiI,<-this,i,List.length_map]
    rfl
   ·cases h2
  ·cases h
 |load ag sz x=>
  simp only[dZ] at h
  split at h
  ·rename_i p hp
   obtain⟨l,h1,h2⟩:=Zj h
   have be:σ.er.ev x.er=.one p.er:=by rw[af.dk,hp];rfl
   have kO:loadAt σ.er.h p.er sz=some (l.map SC.er):=h1
   exact⟨_,by simp only[cE.er,aJ,be,kO,af.dq,Eo],h2⟩
  ·cases h
 |store sz x v=>
  simp only[dZ] at h
  split at h
  ·rename_i n kk ax off b vs hp hc
   have bm:=(ba h).1;replace h:=(ba h).2;subst bm
   have be:σ.er.ev x.er=.one (.ptr n kk ax off):=by rw[af.dk,hp];rfl
   have cI:(σ.er.ev v.er).cells?=some (b,vs.map SC.er):=by rw[af.dk];exact SV.mz hc
   split at h
   ·rename_i cs hn
    have bm:=(ba h).1;replace h:=(ba h).2;subst bm
    have hb:=(bY h).1;replace h:=(bY h).2
    have gi:=Nat.le_of_ble_eq_true hb
    refine⟨_,?_,h⟩
    simp only[cE.er,aJ,be,cI,List.length_map,if_true,Ce hn,SB.er,gi,and_self,af.pO,<-Bu]
   ·rename_i gr m ts xs hn
    have bm:=(ba h).1;replace h:=(ba h).2;subst bm
    rw[eY] at h
    obtain⟨e,he,h⟩:=h
    replace he:xs[kk]? =some e:=he
    obtain⟨σ1,s1,s2⟩:=akI h
    refine⟨σ1,?_,s2⟩
    have np:(List.map (Ty.aH ts) xs)[kk]? =some (Ty.aH ts e):=by rw[List.getElem?_map,he];rfl
    simp only[cE.er,aJ,be,cI,List.length_map,if_true,Ce hn,SB.er,np,s1]
   ·cases h
  ·rename_i n kk ax off s i b vs hp hc
   have bm:=(ba h).1;replace h:=(ba h).2;subst bm
   have be:σ.er.ev x.er=.one (.cB n kk ax off s i):=by rw[af.dk,hp];rfl
   have cI:(σ.er.ev v.er).cells?=some (b,vs.map SC.er):=by rw[af.dk];exact SV.mz hc
   split at h
   ·rename_i gr us xs hn
    have bm:=(ba h).1;replace h:=(ba h).2;subst bm
    rw[eY] at h
    obtain⟨e,he,h⟩:=h
    replace he:xs[kk]? =some e:=he
    obtain⟨e',s1,s2⟩:=akH he h
    refine⟨_,?_,s2⟩
    simp only[cE.er,aJ,be,cI,List.length_map,if_true,Ce hn,SB.er,s1,af.pO]
   ·cases h
  ·cases h
 |oy x=>
  simp only[dZ] at h
  split at h
  ·rename_i n kk sz off hp
   have hb:=(bY h).1;replace h:=(bY h).2
   have be:σ.er.ev x.er=.one (.ptr n kk sz off):=by rw[af.dk,hp];rfl
   exact⟨_,by simp only[cE.er,aJ,be,zD hb,if_true,af.dq];rfl,h⟩
  ·rename_i ts y off hp
   have be:σ.er.ev x.er=.one (.cf (Ty.aH ts y) off):=by rw[af.dk,hp];rfl
   exact⟨_,by simp only[cE.er,aJ,be,af.dq];rfl,h⟩
  ·cases h
 |bin op x y=>
  simp only[dZ] at h
  obtain⟨t,z,h1,h2⟩:=aaP h
  exact⟨_,by simp only[cE.er,aJ,af.dk,h1,af.dq];rfl,h2⟩
 |oO op x y=>
  simp only[dZ] at h
  obtain⟨t,z,h1,h2⟩:=aaN h
  exact⟨_,by simp only[cE.er,aJ,af.dk,h1,af.dq];rfl,h2⟩
 |un op x=>
  simp only[dZ] at h
  obtain⟨t,z,h1,h2⟩:=ak5 h
  exact⟨_,by simp only[cE.er,aJ,af.dk,h1,af.dq];rfl,h2⟩
 |conv kd x=>
  simp only[dZ] at h
  split at h
  ·rename_i k' n hp
   have be:σ.er.ev x.er=.one (.c (.int k' n)):=by rw[af.dk,hp];rfl
   exact⟨_,by simp only[cE.er,aJ,be,af.dq];rfl,h⟩
  ·cases h
 |kB m ts by_ z l c=>
  simp only[dZ] at h
  split at h
  ·rename_i n a b ha hb
   rw[eY] at h
   obtain⟨len,hm,h⟩:=h
   unfold ov at hm
   split at hm
   ·rename_i cv
    injection hm with hm
    subst hm
    split at h
    ·rename_i σ1 e
     have i:=af.sb e
     have tJ:(σ.er.ev l.er).dc=some a:=by rw[af.dk];exact SV.x9 ha
     have aX:(σ.er.ev c.er).dc=some b:=by rw[af.dk];exact SV.x9 hb
     refine⟨_,?_,h⟩
     have hz:(Ty.aH ts z).length=ts.length:=Ty.Cc ts z
     have jZ:(SB.row true m ts (cR a.toNat z)).er=aq.row true m ts.length (List.replicate a.toNat (Ty.aH ts z)):=by simp[SB.er,cR,List.map_replicate]
     have Mp:a<=b/\0<=a/\b.toNat*by_<=eZ/\(Ty.aH ts z).length=ts.length:=⟨cv.1,cv.2.1,cv.2.2,hz⟩
     simp only[cE.er,aJ,tJ,aX,if_pos Mp,<-jZ,i,af.dq]
     rfl
    ·cases h
   ·cases hm
  ·cases h
 |slice sz x lo hi=>
  simp only[dZ] at h
  split at h
  ·rename_i n s l0 len l hp el
   have be:σ.er.ev x.er=.one (.sl n s l0 len):=by rw[af.dk,hp];rfl
   split at h
   ·rename_i hh eh
    have bm:=(ba h).1;replace h:=(ba h).2;subst bm
    have hb:=(bY h).1;replace h:=(bY h).2
    rw[eY] at h
    obtain⟨p,hs,h⟩:=h
    unfold qD at hs
    split at hs
    ·rename_i cv
     injection hs with hs
     subst hs
     refine⟨_,?_,h⟩
     have tM:s=s/\0<=l/\l<=hh/\hh<=len/\(σ.er.h n).isSome=true:=⟨rfl,cv.1,cv.2.1,cv.2.2,zD hb⟩
     have e1:=It el
     have e2:=It eh
     rw[af.dq]
     cases lo with
     |none=>
      simp only[Option.map_none,Option.some.injEq] at e1
      subst e1
      cases hi with
      |none=>
       simp only[Option.map_none,Option.some.injEq] at e2
       subst e2
       simp only[cE.er,aJ,be,Option.map_none]
       exact if_pos ⟨trivial,tM.2⟩
      |some q=>
       simp only[Option.map_some] at e2
       simp only[cE.er,aJ,be,Option.map_none,Option.map_some,e2]
       exact if_pos ⟨trivial,tM.2⟩
     |some q0=>
      simp only[Option.map_some] at e1
      cases hi with
      |none=>
       simp only[Option.map_none,Option.some.injEq] at e2
       subst e2
       simp only[cE.er,aJ,be,Option.map_none,Option.map_some,e1]
       exact if_pos ⟨trivial,tM.2⟩
      |some q=>
       simp only[Option.map_some] at e2
       simp only[cE.er,aJ,be,Option.map_some,e1,e2]
       exact if_pos ⟨trivial,tM.2⟩
    ·cases hs
   ·cases h
  ·rename_i ts xs l hp el
   have be:σ.er.ev x.er=.one (.c (.list ts.length (List.map (Ty.aH ts) xs))):=by rw[af.dk,hp];rfl
   split at h
   ·rename_i hh eh
    have bm:=(ba h).1;replace h:=(ba h).2;subst bm
    rw[eY] at h
    obtain⟨p,hs,h⟩:=h
    unfold qD at hs
    split at hs
    ·rename_i cv
     injection hs with hs
     subst hs
     refine⟨_,?_,h⟩
     have tM:ts.length=ts.length/\0<=l/\l<=hh/\hh<=(List.map (Ty.aH ts) xs).length:=⟨rfl,cv.1,cv.2.1,Int.le_trans cv.2.2 (Int.le_of_eq (congrArg _ (List.length_map (Ty.aH ts)).symm))⟩
     have e1:=It el
     have e2:(match hi.map cD.er with|none=>some (((List.map (Ty.aH ts) xs).length:Nat):Int)|some q=>(σ.er.ev q).dc)=some hh:=by rw[show(List.map (Ty.aH ts) xs).length=List.length (α:=Ty.DL ts) xs from List.length_map (Ty.aH ts)];exact It eh
     rw[af.dq]
     have MS:List.map (Ty.aH ts) (List.take (hh - l).toNat (List.drop (α:=Ty.DL ts) l.toNat xs))=((List.map (Ty.aH ts) xs).drop l.toNat).take (hh - l).toNat:=by
      rw[List.map_take]
      exact congrArg (List.take (hh - l).toNat) List.map_drop
     refine Eq.trans ?_ (congrArg (fun q=>some (σ.er.put d (aj.one (.c (.list ts.length q))))) MS.symm)
     cases lo with
     |none=>
      simp only[Option.map_none,Option.some.injEq] at e1
      subst e1
      cases hi with
      |none=>
       simp only[Option.map_none,Option.some.injEq] at e2
       subst e2
       simp only[cE.er,aJ,be,Option.map_none]
       exact if_pos ⟨trivial,tM.2⟩
      |some q=>
       simp only[Option.map_some] at e2
       simp only[cE.er,aJ,be,Option.map_none,Option.map_some,e2]
       exact if_pos ⟨trivial,tM.2⟩
     |some q0=>
      simp only[Option.map_some] at e1
      cases hi with
      |none=>
       simp only[Option.map_none,Option.some.injEq] at e2
       subst e2
       simp only[cE.er,aJ,be,Option.map_none,Option.map_some,e1]
       exact if_pos ⟨trivial,tM.2⟩
      |some q=>
       simp only[Option.map_some] at e2
       simp only[cE.er,aJ,be,Option.map_some,e1,e2]
       exact if_pos ⟨trivial,tM.2⟩
    ·cases hs
   ·cases h
  ·cases h
 |tail sz x lo=>
  simp only[dZ] at h
  split at h
  ·rename_i n a0 s l0 len l hp hl
   have be:σ.er.ev x.er=.one (.sl a0 s l0 len):=by rw[af.dk,hp];rfl
   have dC:(σ.er.ev lo.er).dc=some l:=by rw[af.dk];exact SV.x9 hl
   split at h
   ·rename_i m ts xs hn
    have bm:=(ba h).1;replace h:=(ba h).2;subst bm
    have bm:=(ba h).1;replace h:=(ba h).2;subst bm
    have bm:=(ba h).1;replace h:=(ba h).2;subst bm
    rw[eY] at h
    obtain⟨_,hf,h⟩:=h
    obtain⟨_,hlen⟩:=Mc hf
    rw[eY] at h
    obtain⟨p,hs,h⟩:=h
    unfold qD at hs
    split at hs
    ·rename_i cv
     injection hs with hs
     subst hs
     simp only at h
     split at h
     ·rename_i σ1 e1
      refine⟨_,?_,h⟩
      have adY:len=xs.length:=hlen
      have VV:0<=l/\l<=(xs.length:Int):=⟨cv.1,cv.2.1⟩
      have bn:σ.er.h a0=some (.row true m ts.length (List.map (Ty.aH ts) xs)):=by simp[af.er,cT,hn,SB.er]
      have i1:=af.sb e1
      have e2:(aL (J xs) - l).toNat=xs.length - l.toNat:=by simp only[aL,J];omega
      have e3:fD xs l.toNat (aL (J xs) - l).toNat=xs.drop l.toNat:=by rw[e2];unfold fD;rw[List.take_of_length_le (by simp)]
      rw[e3] at i1
      simp only[SB.er,af.GN,List.map_drop] at i1
      simp only[cE.er,aJ,be,dC,bn,List.length_map,adY,VV.1,VV.2,and_self,if_true,i1,af.dq,SV.er,SC.er,e2]
     ·cases h
    ·cases hs
   ·cases h
  ·cases h
 |ak off x=>
  simp only[dZ] at h
  split at h
  ·rename_i n kk sz o hp
   have hb:=(bY h).1;replace h:=(bY h).2
   have be:σ.er.ev x.er=.one (.ptr n kk sz o):=by rw[af.dk,hp];rfl
   exact⟨_,by simp only[cE.er,aJ,be,zD hb,if_true,af.dq];rfl,h⟩
  ·rename_i ts y o hp
   have be:σ.er.ev x.er=.one (.cf (Ty.aH ts y) o):=by rw[af.dk,hp];rfl
   exact⟨_,by simp only[cE.er,aJ,be,af.dq];rfl,h⟩
  ·cases h
 |bT sz x i=>
  simp only[dZ] at h
  split at h
  ·rename_i n s lo len j hp hi
   have bm:=(ba h).1;replace h:=(ba h).2;subst bm
   have hb:=(bY h).1;replace h:=(bY h).2
   rw[eY] at h
   obtain⟨q,hq,h⟩:=h
   unfold dT at hq
   split at hq
   ·rename_i cv
    injection hq with hq
    subst hq
    have be:σ.er.ev x.er=.one (.sl n s lo len):=by rw[af.dk,hp];rfl
    have hi':(σ.er.ev i.er).dc=some j:=by rw[af.dk];exact SV.x9 hi
    refine⟨_,?_,h⟩
    have Mp:s=s/\0<=j/\j<len/\(σ.er.h n).isSome=true:=⟨rfl,cv.1,cv.2,zD hb⟩
    simp only[cE.er,aJ,be,hi',af.dq]
    exact if_pos ⟨trivial,Mp.2⟩
   ·cases hq
  ·rename_i ts xs j hp hi
   have bm:=(ba h).1;replace h:=(ba h).2;subst bm
   rw[eY] at h
   obtain⟨e,he,h⟩:=h
   unfold dz at he
   split at he
   ·rename_i cv
    have be:σ.er.ev x.er=.one (.c (.list ts.length (List.map (Ty.aH ts) xs))):=by rw[af.dk,hp];rfl
    have hi':(σ.er.ev i.er).dc=some j:=by rw[af.dk];exact SV.x9 hi
    have np:(List.map (Ty.aH ts) xs)[j.toNat]? =some (Ty.aH ts e):=agm (Ty.aH ts) he
    refine⟨_,?_,h⟩
    simp only[cE.er,aJ,be,hi',cv,and_self,if_true,np,af.dq]
    rfl
   ·cases he
  ·rename_i n kk ax off s len j hp hi
   obtain⟨t,y,h1,h2⟩:=BB h
   have be:σ.er.ev x.er=.one (.bt n kk ax off s len):=by rw[af.dk,hp];rfl
   have hi':(σ.er.ev i.er).dc=some j:=by rw[af.dk];exact SV.x9 hi
   have kO:bU σ.er.h (.bt n kk ax off s len)=some (t.er y):=h1
   split at h2
   ·rename_i ts ys
    have bm:=(ba h2).1;replace h2:=(ba h2).2;subst bm
    rw[eY] at h2
    obtain⟨q,hq,h2⟩:=h2
    unfold dT at hq
    split at hq
    ·rename_i cv
     injection hq with hq
     subst hq
     refine⟨_,?_,h2⟩
     simp only[cE.er,aJ,be,hi',kO,Ty.er,af.dq]
     exact if_pos ⟨trivial,cv.1,by rw[show(List.map (Ty.aH ts) ys).length=J (α:=Ty.DL ts) ys from List.length_map (Ty.aH ts)];exact cv.2⟩
    ·cases hq
   ·cases h2
  ·cases h
 |ext i x=>
  simp only[dZ] at h
  split at h
  ·rename_i xs hp
   split at h
   ·rename_i ag cs hg
    have be:σ.er.ev x.er=.bk (xs.map fun x=>(x.1,x.2.map SC.er)):=by rw[af.dk,hp];rfl
    refine⟨_,?_,h⟩
    simp only[cE.er,aJ,be,List.getElem?_map,hg,Option.map_some,af.dq,Eo]
   ·cases h
  ·cases h
 |nf ag off sz x=>
  simp only[dZ] at h
  split at h
  ·rename_i cs hp
   have be:σ.er.ev x.er=.agg (cs.map SC.er):=by rw[af.dk,hp];rfl
   split at h
   ·rename_i l hl
    exact⟨_,by simp only[cE.er,aJ,be,s7,hl,Option.map_some,af.dq,Eo],h⟩
   ·cases h
  ·cases h
 |mU f bM x=>
  simp only[dZ] at h
  split at h
  ·rename_i n sz lo len hp
   have hb:=(bY h).1;replace h:=(bY h).2
   have be:σ.er.ev x.er=.one (.sl n sz lo len):=by rw[af.dk,hp];rfl
   refine⟨_,?_,h⟩
   simp only[cE.er,aJ,be,zD hb,if_true,af.dq]
   rw[show(SV.agg (s6 bM (aL len) (.sl n sz lo len))).er=.agg ((s6 bM (aL len) (.sl n sz lo len)).map SC.er) from rfl,SQ]
   rfl
  ·rename_i ts xs hp
   have be:σ.er.ev x.er=.one (.c (.list ts.length (List.map (α:=Ty.DL ts) (Ty.aH ts) xs))):=by rw[af.dk,hp];rfl
   refine⟨_,?_,h⟩
   simp only[cE.er,aJ,be,af.dq]
   rw[show(SV.agg (s6 bM (aL (J (α:=Ty.DL ts) xs)) (.v (.list ts) xs))).er=.agg ((s6 bM (aL (J (α:=Ty.DL ts) xs)) (.v (.list ts) xs)).map SC.er) from rfl,SQ]
   congr 3
   congr 1
   exact congrArg Int.ofNat (List.length_map (as:=(xs:List (Ty.DL ts))) (Ty.aH ts))
  ·rename_i ts hp
   have be:σ.er.ev x.er=.one (.nil ts.length):=by rw[af.dk,hp];rfl
   refine⟨_,?_,h⟩
   simp only[cE.er,aJ,be,af.dq]
   rw[show(SV.agg (s6 bM (0:Int) (.nil ts))).er=.agg ((s6 bM (0:Int) (.nil ts)).map SC.er) from rfl,SQ]
   rfl
  ·cases h
 |len x=>
  simp only[dZ] at h
  split at h
  ·rename_i n sz lo len hp
   have hb:=(bY h).1;replace h:=(bY h).2
   have be:σ.er.ev x.er=.one (.sl n sz lo len):=by rw[af.dk,hp];rfl
   exact⟨_,by simp only[cE.er,aJ,be,zD hb,if_true,af.dq];rfl,h⟩
  ·rename_i ts xs hp
   have be:σ.er.ev x.er=.one (.c (.list ts.length (List.map (Ty.aH ts) xs))):=by rw[af.dk,hp];rfl
   exact⟨_,by simp only[cE.er,aJ,be,af.dq];exact congrArg (fun q:Nat=>some (σ.er.put d (aj.one (.c (.int .i64 (q:Int)))))) (List.length_map (Ty.aH ts)),h⟩
  ·rename_i ts hp
   have be:σ.er.ev x.er=.one (.nil ts.length):=by rw[af.dk,hp];rfl
   exact⟨_,by simp only[cE.er,aJ,be,af.dq];rfl,h⟩
  ·rename_i n kk ax off sz len hp
   obtain⟨t,y,h1,h2⟩:=BB h
   have be:σ.er.ev x.er=.one (.bt n kk ax off sz len):=by rw[af.dk,hp];rfl
   have kO:bU σ.er.h (.bt n kk ax off sz len)=some (t.er y):=h1
   split at h2
   ·rename_i ts ys
    exact⟨_,by simp only[cE.er,aJ,be,kO,Ty.er,af.dq];exact congrArg (fun q:Nat=>some (σ.er.put d (aj.one (.c (.int .i64 (q:Int)))))) (List.length_map (Ty.aH ts)),h2⟩
   ·cases h2
  ·cases h
 |append fl ts by_ x y=>
  simp only[dZ] at h
  split at h
  ·cases h
  ·rename_i n
   obtain⟨xs,m,σ1,h1,h2⟩:=aj9 h
   obtain⟨ys,m2,σ2,h3,h4⟩:=aka h2
   rw[eY] at h4
   obtain⟨_,hf,h4⟩:=h4
   unfold jV at hf
   split at hf
   ·rename_i hb
    split at h4
    ·rename_i gF e
     have i:=af.sb e
     refine⟨_,?_,h4⟩
     replace hb:(xs.length+ys.length)*by_<=eZ:=hb
     have jZ:(SB.row true m2 ts (cm xs ys)).er=aq.row true m2 ts.length (List.map (Ty.aH ts) xs++List.map (Ty.aH ts) ys):=by simp[SB.er,cm]
     simp only[cE.er,aJ,af.dk,h1,h3,List.length_map,hb,if_true,<-jZ,i,af.dq]
     rfl
    ·cases h4
   ·cases hf
 |mm mx x y=>
  simp only[dZ] at h
  split at h
  ·rename_i kd a Xi b ex ey
   have UZ:σ.er.ev x.er=.one (.c (.int kd a)):=by rw[af.dk,ex];rfl
   have Vc:σ.er.ev y.er=.one (.c (.int Xi b)):=by rw[af.dk,ey];rfl
   split at h
   ·refine⟨_,?_,h⟩
    rw[af.dq]
    simp only[cE.er,aJ,UZ,Vc,if_true]
    by_cases fc:LT.lt (α:=Int) a b
    ·exact(if_pos fc).trans (congrArg (fun q:Int=>some (σ.er.put d (aj.one (.c (.int kd q))))) (if_pos fc:Oj a b=b).symm)
    ·exact(if_neg fc).trans (congrArg (fun q:Int=>some (σ.er.put d (aj.one (.c (.int kd q))))) (if_neg fc:Oj a b=a).symm)
   ·refine⟨_,?_,h⟩
    rw[af.dq]
    simp only[cE.er,aJ,UZ,Vc,Bool.false_eq_true,if_false]
    by_cases fc:LT.lt (α:=Int) b a
    ·exact(if_pos fc).trans (congrArg (fun q:Int=>some (σ.er.put d (aj.one (.c (.int kd q))))) (if_pos fc:Ok a b=b).symm)
    ·exact(if_neg fc).trans (congrArg (fun q:Int=>some (σ.er.put d (aj.one (.c (.int kd q))))) (if_neg fc:Ok a b=a).symm)
  ·cases h
 |call m f xs=>
  simp only[dZ] at h
  obtain⟨σ1,h1,h2⟩:=Y7 h
  exact⟨σ1,by simp only[cE.er,aJ,xr];exact h1,h2⟩
 |copy x y=>
  simp only[dZ] at h
  split at h
  ·rename_i n s lo len c hp hq
   split at h
   ·rename_i gr m ts xs hn
    have bm:=(ba h).1;replace h:=(ba h).2;subst bm
    have ht:=(ba h).1;replace h:=(ba h).2
    have hb:=(bY h).1;replace h:=(bY h).2
    simp only[Bool.and_eq_true] at hb
    obtain⟨u,ys,h1,h2⟩:=BB h
    split at h2
    ·rename_i us ys
     split at h2
     ·rename_i zs hz
      rw[eY] at h2
      obtain⟨ar,hc,h2⟩:=h2
      refine⟨_,?_,h2⟩
      have be:σ.er.ev x.er=.one (.sl n 1 lo len):=by rw[af.dk,hp];rfl
      have dW:σ.er.ev y.er=.one c.er:=by rw[af.dk,hq];rfl
      have rj:Ty.er (.list us) ys=Ty.er (.list ts) zs:=by
       have:=Ty.aaY hz
       exact this
      have kO:bU σ.er.h c.er=some (.list ts.length (List.map (Ty.aH ts) zs)):=by
       have:bU σ.er.h c.er=some (Ty.er (.list us) ys):=h1
       rw[this,rj];rfl
      obtain⟨c1,c2⟩:=Uz hc
      have g9:m≠ .aF:=by rintro rfl;exact absurd hb.1 (by simp[Mode.own])
      simp only[cE.er,aJ,be,dW,Ce hn,SB.er,kO]
      rw[if_pos ⟨trivial,trivial,ht,ht,g9,yC ts xs hb.2,yC ts zs hb.2,by rw[List.length_map];exact c1⟩]
      rw[af.dq,af.pO]
      simp only[SB.er,c2,ht]
      rw[show List.map (Ty.aH ts) (List.take (α:=Ty.DL ts) len zs)=List.take len (List.map (Ty.aH ts) zs) from List.map_take,show(List.map (Ty.aH ts) zs).length=J (α:=Ty.DL ts) zs from List.length_map _]
      rfl
     ·cases h2
    ·cases h2
   ·cases h
  ·cases h
 |kN t z x=>
  simp only[dZ] at h
  split at h
  ·rename_i n s lo len hp
   split at h
   ·rename_i gr m ts xs hn
    have bm:=(ba h).1;replace h:=(ba h).2;subst bm
    have hb:=(bY h).1;replace h:=(bY h).2
    simp only[Bool.and_eq_true] at hb
    split at h
    ·rename_i e he
     rw[eY] at h
     obtain⟨ar,hc,h⟩:=h
     refine⟨_,?_,h⟩
     have be:σ.er.ev x.er=.one (.sl n 1 lo len):=by rw[af.dk,hp];rfl
     have nk:Ty.aH ts e=[t.er z]:=wh he
     have hlen:ts.length=1:=by
      have:=congrArg List.length nk
      rw[Ty.Cc] at this
      exact this
     have sx:Ty.fi ts=true:=by
      have:=Ty.IV ts e
      rw[nk] at this
      simp only[Am.fi,List.all_cons,List.all_nil,Bool.and_true,Ty.wC,hb.2] at this
      exact this.symm
     obtain⟨c1,c2⟩:=Uz hc
     have g9:m≠ .aF:=by rintro rfl;exact absurd hb.1 (by simp[Mode.own])
     simp only[cE.er,aJ,be,Ce hn,SB.er]
     rw[if_pos ⟨trivial,hlen,by rw[Ty.wC];exact hb.2,g9,yC ts xs sx,by rw[List.length_map];exact c1⟩]
     rw[af.dq,af.pO]
     simp only[SB.er,c2,hlen,cR,List.map_replicate,nk]
     rfl
    ·cases h
   ·cases h
  ·cases h
 |mr f xs=>
  simp only[dZ] at h
  obtain⟨v,h1,h2⟩:=akg h
  refine⟨_,?_,h2⟩
  simp only[cE.er,aJ,xr]
  rw[h1]
  simp only[af.dq]
 |pt f xs=>
  simp only[dZ] at h
  split at h
  ·rename_i cs hc
   obtain⟨h1,h2⟩:=Zn hc
   refine⟨_,?_,h⟩
   simp only[cE.er,aJ,xr]
   split
   ·rename_i cs' e
    have e2:some cs'=some (cs.map SC.er):=e.symm.trans h1
    injection e2 with e2
    subst e2
    rw[if_pos h2,af.dq]
    simp only[SV.er,SC.er,SC.Cf]
   ·rename_i e
    have e2:none=some (cs.map SC.er):=e.symm.trans h1
    cases e2
  ·cases h
 |e9 m f xs=>
  simp only[dZ] at h
  obtain⟨σ1,h1,h2⟩:=akh h
  exact⟨σ1,by simp only[cE.er,aJ,xr];exact h1,h2⟩
 |jv f xs=>
  simp only[dZ] at h
  obtain⟨σ1,h1,h2⟩:=akf h
  exact⟨σ1,by simp only[cE.er,aJ,xr];exact h1,h2⟩
 |mw m x xs=>
  simp only[dZ] at h
  split at h
  ·rename_i f ca hp
   have be:σ.er.ev x.er=.one (.fn f (ca.map SC.er)):=by rw[af.dk,hp];simp only[SV.er,SC.er,SC.Cf]
   obtain⟨σ1,h1,h2⟩:=Y7 h
   refine⟨σ1,?_,h2⟩
   simp only[cE.er,aJ,be,xr]
   rw[List.map_append] at h1
   simp only[List.map_map] at h1⊢
   exact h1
  ·cases h
structure eX where
 dst:Option Nat
 op:cE
 guard:Option (Nat×Bool)
def eX.er (o:eX):bO:=⟨o.dst,o.op.er,o.guard⟩
def af.lit (σ:af) (n:Nat) (b:Bool):af:={σ with env:=av σ.env n (.one (.v .bool b))}
theorem af.Cd {σ:af} {n:Nat} {b:Bool} (h:σ.env n=.one (.v .bool b)):(σ.lit n b).er=σ.er:=by
 have:av σ.env n (.one (.v .bool b))=σ.env:=by
  funext s
  simp only[jp]
  split
  ·rename_i hs;subst hs;exact h.symm
  ·rfl
 simp only[af.lit,this]
def qB (T:List aG):List eX->af->(af->Option ρ)->Option ρ
 |[],σ,k=>k σ
 |o::os,σ,k=>match o.guard with
  |none=>dZ T o.dst o.op σ fun σ1=>qB T os σ1 k
  |some (s,kK)=>match σ.env s with
   |.one (.v .bool b)=>aw b
    (match kK with
     |true=>dZ T o.dst o.op (σ.lit s true) fun σ1=>qB T os σ1 k
     |false=>qB T os ((σ.lit s true).put o.dst (.bk [])) k)
    (match kK with
     |true=>qB T os ((σ.lit s false).put o.dst (.bk [])) k
     |false=>dZ T o.dst o.op (σ.lit s false) fun σ1=>qB T os σ1 k)
   |.bk []=>qB T os (σ.put o.dst (.bk [])) k
   |_=>none
theorem Sp {T:List aG}:∀{os:List eX} {σ:af} {k:af->Option ρ} {r:ρ},qB T os σ k=some r->
  ∃σ1:af,nU (dm T) (os.map eX.er) σ.er=some σ1.er/\k σ1=some r
 |[],σ,k,r,h=>⟨σ,rfl,h⟩
 |o::os,σ,k,r,h=>by
  obtain⟨d,op,g⟩:=o
  have run:∀jP:af,jP.er=σ.er->eN (dm T) (eX.er ⟨d,op,g⟩) σ.er=aJ (dm T) d op.er σ.er->dZ T d op jP (fun σ1=>qB T os σ1 k)=some r->
    ∃σ1:af,nU (dm T) ((⟨d,op,g⟩::os).map eX.er) σ.er=some σ1.er/\k σ1=some r:=by
   intro jP h0 he hs
   obtain⟨σ1,h1,h2⟩:=Za hs
   obtain⟨σ2,h3,h4⟩:=Sp h2
   rw[h0] at h1
   exact⟨σ2,by simp only[List.map_cons,nU,he,h1,h3],h4⟩
  have yF:∀jP:af,jP.er=σ.er->eN (dm T) (eX.er ⟨d,op,g⟩) σ.er=some (σ.er.put d (.bk []))->qB T os (jP.put d (.bk [])) k=some r->
    ∃σ1:af,nU (dm T) ((⟨d,op,g⟩::os).map eX.er) σ.er=some σ1.er/\k σ1=some r:=by
   intro jP h0 he hs
   obtain⟨σ2,h3,h4⟩:=Sp hs
   rw[af.dq,h0] at h3
   exact⟨σ2,by simp only[List.map_cons,nU,he];exact h3,h4⟩
  cases g with
  |none=>exact run σ rfl rfl h
  |some g=>
   obtain⟨s,kK⟩:=g
   simp only[qB] at h
   split at h
   ·rename_i b hs
    have j0:σ.er.env s=.one (.c (.bool b)):=by show(σ.env s).er=_;rw[hs];rfl
    cases hb:(b:Bool) with
    |true=>
     have h0:(σ.lit s true).er=σ.er:=af.Cd (by rw[hs,hb])
     rw[hb] at h
     simp only[Gu] at h
     cases kK with
     |true=>exact run _ h0 (by simp[eN,eX.er,j0,hb]) h
     |false=>exact yF _ h0 (by simp[eN,eX.er,j0,hb]) h
    |false=>
     have h0:(σ.lit s false).er=σ.er:=af.Cd (by rw[hs,hb])
     rw[hb] at h
     simp only[xl] at h
     cases kK with
     |true=>exact yF _ h0 (by simp[eN,eX.er,j0,hb]) h
     |false=>exact run _ h0 (by simp[eN,eX.er,j0,hb]) h
   ·rename_i hs
    have j0:σ.er.env s=.bk []:=by show(σ.env s).er=_;rw[hs];rfl
    exact yF σ rfl (by simp[eN,eX.er,j0]) h
   ·cases h
def qC (T:List aG) (ps:List (Nat×Nat)):List eX->List (Option FP)->af->(af->Option ρ)->Option ρ
 |[],cN,σ,k=>eS (wm ps cN) (k σ)
 |o::os,cN,σ,k=>match o.guard with
  |none=>dZ T o.dst o.op σ fun σ1=>qC T ps os (cN++[o.er.fp σ.er]) σ1 k
  |some (s,kK)=>match σ.env s with
   |.one (.v .bool b)=>aw b
    (match kK with
     |true=>dZ T o.dst o.op (σ.lit s true) fun σ1=>qC T ps os (cN++[o.er.fp (σ.lit s true).er]) σ1 k
     |false=>qC T ps os (cN++[o.er.fp (σ.lit s true).er]) ((σ.lit s true).put o.dst (.bk [])) k)
    (match kK with
     |true=>qC T ps os (cN++[o.er.fp (σ.lit s false).er]) ((σ.lit s false).put o.dst (.bk [])) k
     |false=>dZ T o.dst o.op (σ.lit s false) fun σ1=>qC T ps os (cN++[o.er.fp (σ.lit s false).er]) σ1 k)
   |.bk []=>qC T ps os (cN++[o.er.fp σ.er]) (σ.put o.dst (.bk [])) k
   |_=>none
theorem So {T:List aG} {ps:List (Nat×Nat)}:∀{os:List eX} {cN:List (Option FP)} {σ:af} {k:af->Option ρ} {r:ρ},qC T ps os cN σ k=some r->
  ∃(σ1:af) (fs:List (Option FP)),qS (dm T) (os.map eX.er) cN σ.er=some (fs,σ1.er)/\wm ps fs=true/\k σ1=some r
 |[],cN,σ,k,r,h=>⟨σ,cN,rfl,(bY h).1,(bY h).2⟩
 |o::os,cN,σ,k,r,h=>by
  obtain⟨d,op,g⟩:=o
  have run:∀jP:af,jP.er=σ.er->eN (dm T) (eX.er ⟨d,op,g⟩) σ.er=aJ (dm T) d op.er σ.er->dZ T d op jP (fun σ1=>qC T ps os (cN++[(eX.er ⟨d,op,g⟩).fp jP.er]) σ1 k)=some r->
    ∃(σ1:af) (fs:List (Option FP)),qS (dm T) ((⟨d,op,g⟩::os).map eX.er) cN σ.er=some (fs,σ1.er)/\wm ps fs=true/\k σ1=some r:=by
   intro jP h0 he hs
   obtain⟨σ1,h1,h2⟩:=Za hs
   obtain⟨σ2,fs,h3,h4⟩:=So h2
   rw[h0] at h1 h3
   exact⟨σ2,fs,by simp only[List.map_cons,qS,he,h1,h3],h4⟩
  have yF:∀jP:af,jP.er=σ.er->eN (dm T) (eX.er ⟨d,op,g⟩) σ.er=some (σ.er.put d (.bk []))->qC T ps os (cN++[(eX.er ⟨d,op,g⟩).fp jP.er]) (jP.put d (.bk [])) k=some r->
    ∃(σ1:af) (fs:List (Option FP)),qS (dm T) ((⟨d,op,g⟩::os).map eX.er) cN σ.er=some (fs,σ1.er)/\wm ps fs=true/\k σ1=some r:=by
   intro jP h0 he hs
   obtain⟨σ2,fs,h3,h4⟩:=So hs
   rw[af.dq,h0] at h3
   exact⟨σ2,fs,by simp only[List.map_cons,qS,he];exact h3,h4⟩
  cases g with
  |none=>exact run σ rfl rfl h
  |some g=>
   obtain⟨s,kK⟩:=g
   simp only[qC] at h
   split at h
   ·rename_i b hs
    have j0:σ.er.env s=.one (.c (.bool b)):=by show(σ.env s).er=_;rw[hs];rfl
    cases hb:(b:Bool) with
    |true=>
     have h0:(σ.lit s true).er=σ.er:=af.Cd (by rw[hs,hb])
     rw[hb] at h
     simp only[Gu] at h
     cases kK with
     |true=>exact run _ h0 (by simp[eN,eX.er,j0,hb]) h
     |false=>exact yF _ h0 (by simp[eN,eX.er,j0,hb]) h
    |false=>
     have h0:(σ.lit s false).er=σ.er:=af.Cd (by rw[hs,hb])
     rw[hb] at h
     simp only[xl] at h
     cases kK with
     |true=>exact yF _ h0 (by simp[eN,eX.er,j0,hb]) h
     |false=>exact run _ h0 (by simp[eN,eX.er,j0,hb]) h
   ·rename_i hs
    have j0:σ.er.env s=.bk []:=by show(σ.env s).er=_;rw[hs];rfl
    exact yF σ rfl (by simp[eN,eX.er,j0]) h
   ·cases h
end
end Go.Am
