/- S4: operations of the typed evaluator. No condition. -/
import Derived.Test.YtbgmbplglejidaaS3
set_option linter.unusedVariables false
namespace Go.Am
theorem ajq {α β:Type} (f:α->β) {l:List α} {i:Nat} {e:α} (h:l[i]? =some e):(l.map f)[i]? =some (f e):=by rw[List.getElem?_map,h];rfl
section
variable {ρ:Type}
def JE:Bool->Mode
 |true=>.ae
 |false=>.aD
theorem al4 (o:Bool):(if o=true then Mode.ae else .aD)=JE o:=by cases o<;>rfl
def JC (σ:af) (d:Int) (o:Option cC):Option Int:=
 match o with
 |none=>some d
 |some q=>(σ.ev q).df
theorem JD {σ:af} {d l:Int} {o:Option cC} (h:JC σ d o=some l):(match o.map cC.er with|none=>some d|some q=>(σ.er.ev q).df)=some l:=by
 cases o with
 |none=>exact h
 |some q=>simp only[Option.map_some,af.di];exact SV.yH h
def ti (bH:Bool) (n:Int) (c:SC):List SC:=match bH with
 |true=>[.v (.int .i64) n,.v (.int .i64) (1:Int),c]
 |false=>[.v (.int .i64) (1:Int),.v (.int .i64) n,c]
theorem US (bH:Bool) (n:Int) (c:SC):(ti bH n c).map SC.er=kS bH n c.er:=by cases bH<;>rfl
def zg:List SC->Option (List TD)
 |[]=>some []
 |.v t x::l=>match t.eN with
  |true=>match zg l with
   |some ds=>some (⟨t,x⟩::ds)
   |none=>none
  |false=>none
 |_::_=>none
theorem abJ:∀{vs:List SC} {ds:List TD},zg vs=some ds->lz (vs.map SC.er)=some (cD ds)
 |[],ds,h=>by simp only[zg] at h;injection h with h;subst h;rfl
 |c::vs,ds,h=>by
  cases c with
  |v t x=>
   simp only[zg] at h
   split at h
   ·rename_i hs
    split at h
    ·rename_i l hl
     injection h with h
     subst h
     simp only[List.map_cons,SC.er,lz,Ty.wX,hs,if_true,abJ hl,cD,Option.map_some]
    ·cases h
   ·cases h
  |_=>simp[zg] at h
def UU (us:List Ty) (e:Ty.DL us) (off s i:Nat) (vs:List SC) (k:Ty.DL us->Option ρ):Option ρ:=
 match(Ty.gT us e)[off]? with
 |some ⟨.list ts,ys⟩=>cJ ts.length s (cJ vs.length s (e7 (Ty.fA ts) ((dv (α:=Ty.DL ts) ys i).aa fun _=>match zg vs with
  |some ds=>match qy ts ds with
   |some el=>match J4 us e off ⟨.list ts,bW (α:=Ty.DL ts) ys i el⟩ with
    |some e'=>k e'
    |none=>none
   |none=>none
  |none=>none)))
 |_=>none
theorem aok {us ts:List Ty} {xs:List (Ty.DL us)} {kk off i:Nat} {e e':Ty.DL us} {vs:List SC} {ds:List TD} {el y0:Ty.DL ts} (ys:List (Ty.DL ts)) (he:xs[kk]? =some e) (hd:(Ty.gT us e)[off]? =some ⟨.list ts,ys⟩)
  (iJ:vs.length=ts.length) (hs:Ty.fA ts=true) (hy:ys[i]? =some y0) (nf:zg vs=some ds) (lF:qy ts ds=some el) (yw:J4 us e off ⟨.list ts,bW ys i el⟩=some e'):
  u4 (List.map (Ty.aH us) xs) kk off ts.length i (vs.map SC.er)=some (List.map (Ty.aH us) (bW xs kk e')):=by
 have ni:(Ty.aH us e)[off]? =some (.list ts.length (List.map (Ty.aH ts) ys)):=Mt hd
 have hx:(List.map (Ty.aH us) xs)[kk]? =some (Ty.aH us e):=by rw[List.getElem?_map,he];rfl
 have hi:i<(List.map (Ty.aH ts) ys).length:=by rw[List.length_map];exact(List.getElem?_eq_some_iff.1 hy).1
 have Zd:Ty.aH us e'=(Ty.aH us e).set off (.list ts.length (List.map (Ty.aH ts) (bW ys i el))):=abM yw
 unfold u4
 rw[hx,Option.bind_some,ni]
 simp only
 rw[if_pos ⟨trivial,by simpa using iJ,hi,zf ts ys hs⟩,abJ nf,List.getD_eq_getElem?_getD,hx]
 simp only[Option.map_some,Option.getD_some]
 unfold bW at Zd⊢
 rw[List.map_set,Zd,List.map_set,wH lF]
theorem aoU {us:List Ty} {xs:List (Ty.DL us)} {kk:Nat} {e:Ty.DL us} {off s i:Nat} {vs:List SC} {k:Ty.DL us->Option ρ} {r:ρ} (he:xs[kk]? =some e) (h:UU us e off s i vs k=some r):
  ∃e',u4 (List.map (Ty.aH us) xs) kk off s i (vs.map SC.er)=some (List.map (Ty.aH us) (bW xs kk e'))/\k e'=some r:=by
 unfold UU at h
 split at h
 ·rename_i ts ys hd
  have vU:=(bg h).1;replace h:=(bg h).2
  have ub:=(bg h).1;replace h:=(bg h).2
  have hs:=(cm h).1;replace h:=(cm h).2
  rw[eP] at h
  obtain⟨y0,hy,h⟩:=h
  split at h
  ·rename_i ds nf
   split at h
   ·rename_i el lF
    split at h
    ·rename_i e' yw
     subst vU
     exact⟨e',aok ys he hd ub hs hy nf lF yw,h⟩
    ·cases h
   ·cases h
  ·cases h
 ·cases h
def dU (T:List ar) (d:Option Nat) (op:cG) (σ:af) (k:af->Option ρ):Option ρ:=
 match op with
 |.mv x=>k (σ.put d (σ.ev x))
 |.pick c x y=>match σ.ev c with
  |.one (.v .bool b)=>match σ.ev x,σ.ev y with
   |.one (.v t x'),.one (.v u y')=>match Ty.cast u t y' with
    |some z=>k (σ.put d (.one (.v t (aC b x' z))))
    |none=>aC b (k (σ.put d (σ.ev x))) (k (σ.put d (σ.ev y)))
   |_,_=>aC b (k (σ.put d (σ.ev x))) (k (σ.put d (σ.ev y)))
  |_=>none
 |.alloc zs=>match d with
  |some n=>match σ.ins n (.box zs) with
   |some σ1=>k (σ1.put d (.one (.ptr n 0 0 0)))
   |none=>none
  |none=>none
 |.box sz x=>match d,(σ.ev x).cells? with
  |some n,some (_,cs)=>cJ cs.length sz (match σ.ins n (.box cs) with
   |some σ1=>k (σ1.put d (.one (.ptr n 0 0 0)))
   |none=>none)
  |_,_=>none
 |.build zs parts=>match Fg σ.ev zs parts with
  |some cs=>k (σ.put d (.agg cs))
  |none=>none
 |.fI ts parts=>match d with
  |some n=>Kn ts σ (parts.map σ.ev) fun es o σ1=>match σ1.ins n (.row true (JE o) ts es) with
   |some σ2=>k (σ2.put d (.one (.sl n ts.length 0 es.length)))
   |none=>none
  |none=>none
 |.load ag sz x=>match σ.ev x with
  |.one p=>E5 σ.h p sz fun cs=>k (σ.put d (zu ag cs))
  |_=>none
 |.mQ ag sz x=>match σ.ev x with
  |.one p=>Ul σ p fun σ1=>E5 σ1.h p sz fun cs=>k (σ1.put d (zu ag cs))
  |_=>none
 |.store sz x v=>match σ.ev x,(σ.ev v).cells? with
  |.one (.ptr n kk az off),some (_,vs)=>cJ vs.length sz (match σ.h n with
   |some (.box cs)=>cJ kk 0 (e7 (Nat.ble (off+sz) cs.length) (k (σ.dn n (.box (cj cs off vs)))))
   |some (.row gr m ts xs)=>cJ az ts.length ((dv xs kk).aa fun e=>UW σ n gr m ts xs kk off e vs k)
   |none=>none)
  |.one (.cQ n kk az off s i),some (_,vs)=>cJ vs.length sz (match σ.h n with
   |some (.row gr .live us xs)=>cJ az us.length ((dv xs kk).aa fun e=>UU us e off s i vs fun e'=>k (σ.dn n (.row gr .live us (bW xs kk e'))))
   |_=>none)
  |_,_=>none
 |.gE x=>match σ.ev x with
  |.one (.ptr n kk sz off)=>e7 (σ.h n).isSome (k (σ.put d (.one (.ptr n kk sz off))))
  |.one (.cu ts x off)=>k (σ.put d (.one (.cu ts x off)))
  |_=>none
 |.bin op x y=>LY op (σ.ev x) (σ.ev y) fun t z=>k (σ.put d (.one (.v t z)))
 |.oF op x y=>LX op (σ.ev x) (σ.ev y) fun t z=>k (σ.put d (.one (.v t z)))
 |.un op x=>Vk op (σ.ev x) fun t z=>k (σ.put d (.one (.v t z)))
 |.conv kd x=>match σ.ev x with
  |.one (.v (.int _) n)=>k (σ.put d (.one (.v (.int kd) (xR kd n))))
  |_=>none
 |.jF m ts by_ z l c=>match d,(σ.ev l).df,(σ.ev c).df with
  |some n,some a,some b=>(n9 a b by_).aa fun len=>match σ.ins n (.row true m ts (dT len z)) with
   |some σ1=>k (σ1.put d (.one (.sl n ts.length 0 len)))
   |none=>none
  |_,_,_=>none
 |.slice sz x lo hi=>
  match σ.ev x,JC σ 0 lo with
  |.one (.sl n s l0 len),some l=>
   match JC σ (aI len) hi with
   |some h=>cJ s sz (e7 (σ.h n).isSome ((ib l h len).aa fun p=>k (σ.put d (.one (.sl n s (aW l0 p.1) p.2)))))
   |none=>none
  |.one (.v (.list ts) xs),some l=>
   match JC σ (aI (J (α:=Ty.DL ts) xs)) hi with
   |some h=>cJ ts.length sz ((ib l h (J (α:=Ty.DL ts) xs)).aa fun p=>k (σ.put d (.one (.v (.list ts) (gu (α:=Ty.DL ts) xs p.1 p.2)))))
   |none=>none
  |_,_=>none
 |.tail sz x lo=>match d,σ.ev x,(σ.ev lo).df with
  |some n,.one (.sl a s l0 len),some l=>match σ.h a with
   |some (.row true m ts xs)=>cJ s ts.length (cJ ts.length sz (cJ l0 0 ((ai l0 len (J xs)).aa fun _=>(ib l (aI (J xs)) (J xs)).aa fun p=>
    match(σ.del a).ins n (.row true m ts (gu xs p.1 p.2)) with
    |some σ1=>k (σ1.put d (.one (.sl n sz 0 p.2)))
    |none=>none)))
   |_=>none
  |_,_,_=>none
 |.aF off x=>match σ.ev x with
  |.one (.ptr n kk sz o)=>e7 (σ.h n).isSome (k (σ.put d (.one (.ptr n kk sz (o+off)))))
  |.one (.cu ts x o)=>k (σ.put d (.one (.cu ts x (o+off))))
  |_=>none
 |.bX sz x i=>match σ.ev x,(σ.ev i).df with
  |.one (.sl n s lo len),some j=>cJ s sz (e7 (σ.h n).isSome ((fj j len).aa fun q=>k (σ.put d (.one (.ptr n (aW lo q) s 0)))))
  |.one (.v (.list ts) xs),some j=>cJ ts.length sz ((dK (α:=Ty.DL ts) xs j).aa fun e=>k (σ.put d (.one (.cu ts e 0))))
  |.one (.bz n kk az off s len),some j=>xd σ.h (.bz n kk az off s len) fun t x=>match t,x with
   |.list ts,ys=>cJ ts.length sz ((fj j (J (α:=Ty.DL ts) ys)).aa fun q=>k (σ.put d (.one (.cQ n kk az off sz q))))
   |_,_=>none
  |_,_=>none
 |.ext i x=>match σ.ev x with
  |.bn xs=>match xs[i]? with
   |some (ag,cs)=>k (σ.put d (zu ag cs))
   |none=>none
  |_=>none
 |.oM ag off sz x=>match σ.ev x with
  |.agg cs=>match sub cs off sz with
   |some l=>k (σ.put d (zu ag l))
   |none=>none
  |_=>none
 |.ou f bH x=>match σ.ev x with
  |.one (.sl n sz lo len)=>e7 (σ.h n).isSome (k (σ.put d (.agg (ti bH (aI len) (.sl n sz lo len)))))
  |.one (.v (.list ts) xs)=>k (σ.put d (.agg (ti bH (aI (J (α:=Ty.DL ts) xs)) (.v (.list ts) xs))))
  |.one (.nil ts)=>k (σ.put d (.agg (ti bH (0:Int) (.nil ts))))
  |_=>none
 |.len x=>match σ.ev x with
  |.one (.sl n sz lo len)=>e7 (σ.h n).isSome (k (σ.put d (.one (.v (.int .i64) (aI len)))))
  |.one (.v (.list ts) xs)=>k (σ.put d (.one (.v (.int .i64) (aI (J (α:=Ty.DL ts) xs)))))
  |.one (.nil ts)=>k (σ.put d (.one (.v (.int .i64) (0:Int))))
  |.one (.bz n kk az off sz len)=>xd σ.h (.bz n kk az off sz len) fun t x=>match t,x with
   |.list ts,ys=>k (σ.put d (.one (.v (.int .i64) (aI (J (α:=Ty.DL ts) ys)))))
   |_,_=>none
  |_=>none
 |.append fl ts by_ x y=>match d with
  |none=>none
  |some n=>S3 σ ts (σ.ev x) fun xs m σ1=>S4 fl σ1 ts m (σ.ev y) fun ys m2 σ2=>
   (jt (aW (J xs) (J ys)) by_).aa fun _=>match σ2.ins n (.row true m2 ts (dt xs ys)) with
    |some gI=>k (gI.put d (.one (.sl n ts.length 0 (aW (J xs) (J ys)))))
    |none=>none
 |.mm mx x y=>match σ.ev x,σ.ev y with
  |.one (.v (.int kd) a),.one (.v (.int ZO) b)=>match mx with
   |true=>k (σ.put d (.one (.v (.int kd) (yS a b))))
   |false=>k (σ.put d (.one (.v (.int kd) (n7 a b))))
  |_,_=>none
 |.call m f xs=>J3 T m d f (xs.map σ.ev) σ k
 |.mh f xs=>Ue T d f (xs.map σ.ev) σ k
 |.copy x y=>match σ.ev x,σ.ev y with
  |.one (.sl n s lo len),.one c=>match σ.h n with
   |some (.row gr m ts xs)=>cJ s 1 (cJ ts.length 1 (e7 (m.own&&Ty.fA ts) (xd σ.h c fun u ys=>match u,ys with
    |.list us,ys=>match Ty.cast (.list us) (.list ts) ys with
     |some zs=>(HS (α:=Ty.DL ts) xs lo len (List.take (α:=Ty.DL ts) len zs)).aa fun aq=>k ((σ.dn n (.row gr m ts aq)).put d (.one (.v (.int .i64) (aI (Nat.min (J (α:=Ty.DL ts) zs) len)))))
     |none=>none
    |_,_=>none)))
   |_=>none
  |_,_=>none
 |.kB t z x=>match σ.ev x with
  |.one (.sl n s lo len)=>match σ.h n with
   |some (.row gr m ts xs)=>cJ s 1 (e7 (m.own&&t.eN) (match qy ts [⟨t,z⟩] with
    |some e=>(HS (α:=Ty.DL ts) xs lo len (dT len e)).aa fun aq=>k ((σ.dn n (.row gr m ts aq)).put d (.bn []))
    |none=>none))
   |_=>none
  |_=>none
 |.pq f xs=>match zm (xs.map σ.ev) with
  |some cs=>k (σ.put d (.one (.fn f cs)))
  |none=>none
 |.mn m x xs=>match σ.ev x with
  |.one (.fn f cr)=>J3 T m d f (xs.map σ.ev++cr.map .one) σ k
  |_=>none
 |.gd m f xs=>Uf T m d f (xs.map σ.ev) σ k
 |.du f xs=>Ud T d f (xs.map σ.ev) σ k
 |.mq f xs=>Uh T d f (xs.map σ.ev) σ k
 |.lv f xs=>Ug T d f (xs.map σ.ev) σ k
theorem Dg {σ:af} {n:Nat} {b:SB} (h:σ.h n=some b):σ.er.h n=some b.er:=by simp[af.er,cU,h]
theorem AE {σ:af} {n:Nat} (h:(σ.h n).isSome=true):(σ.er.h n).isSome=true:=by
 simp only[af.er,Xs,h]
theorem Vq (t:Ty) (x:t.D):(SV.one (.v t x)).er=.one (.c (t.er x)):=rfl
theorem W0 {ts:List Ty} {xs aq ys:List (Ty.DL ts)} {lo len:Nat} (h:HS xs lo len ys=some aq):lo+len<=xs.length/\List.map (Ty.aH ts) aq=cj (List.map (Ty.aH ts) xs) lo (List.map (Ty.aH ts) ys):=by
 unfold HS at h
 split at h
 ·rename_i hc
  injection h with h
  subst h
  exact⟨hc,Ck (Ty.aH ts) xs ys lo⟩
 ·cases h
theorem Ty.adW {t u:Ty} {x:t.D} {y:u.D} (h:Ty.cast t u x=some y):t.er x=u.er y:=by
 unfold Ty.cast at h
 split at h
 ·rename_i he
  have:=Ty.beq_eq he
  subst this
  injection h with h
  rw[<-h]
 ·cases h
theorem abO {T:List ar} {d:Option Nat} {op:cG} {σ:af} {k:af->Option ρ} {r:ρ} (h:dU T d op σ k=some r):
  ∃σ1:af,exec (cL T) d op.er σ.er=some σ1.er/\k σ1=some r:=by
 cases op with
 |mv x=>exact⟨_,by simp only[cG.er,exec,af.dj,af.di],h⟩
 |pick c x y=>
  simp only[dU] at h
  split at h
  ·rename_i b hc
   have cv:σ.er.ev c.er=.one (.c (.bool b)):=by rw[af.di,hc];rfl
   have cf:∀σ1:af,σ1.er=σ.er.put d (cond b (σ.ev x).er (σ.ev y).er)->exec (cL T) d (cG.er (.pick c x y)) σ.er=some σ1.er:=by
    intro σ1 e
    simp only[cG.er,exec,cv,af.di,e]
    cases b<;>rfl
   have gen:aC b (k (σ.put d (σ.ev x))) (k (σ.put d (σ.ev y)))=some r->∃σ1:af,exec (cL T) d (cG.er (.pick c x y)) σ.er=some σ1.er/\k σ1=some r:=by
    intro h
    cases hb:(b:Bool) with
    |true=>rw[hb] at h;exact⟨_,cf _ (by rw[af.dj,hb];rfl),h⟩
    |false=>rw[hb] at h;exact⟨_,cf _ (by rw[af.dj,hb];rfl),h⟩
   split at h
   ·rename_i t x' u y' ex ey
    split at h
    ·rename_i z hz
     refine⟨_,cf _ ?_,h⟩
     rw[af.dj,ex,ey,Vq,Vq,Vq,Ty.Wp hz]
     cases (b:Bool)<;>rfl
    ·exact gen h
   ·exact gen h
  ·cases h
 |alloc zs=>
  simp only[dU] at h
  split at h
  ·rename_i n
   split at h
   ·rename_i σ1 e
    have:=af.sy e
    exact⟨_,by simp only[cG.er,exec];rw[show ao.box (zs.map SC.er)=(SB.box zs).er from rfl,this,af.dj];rfl,h⟩
   ·cases h
  ·cases h
 |box sz x=>
  simp only[dU] at h
  split at h
  ·rename_i n b cs hc
   have bq:=(bg h).1;replace h:=(bg h).2;subst bq
   split at h
   ·rename_i σ1 e
    have:=af.sy e
    refine⟨_,?_,h⟩
    simp only[cG.er,exec,af.di,SV.lx hc,List.length_map,if_true]
    rw[show ao.box (cs.map SC.er)=(SB.box cs).er from rfl,this,af.dj];rfl
   ·cases h
  ·cases h
 |build zs parts=>
  simp only[dU] at h
  split at h
  ·rename_i cs hc
   exact⟨_,by simp only[cG.er,exec,acy hc,af.dj];rfl,h⟩
  ·cases h
 |fI ts parts=>
  simp only[dU] at h
  split at h
  ·rename_i n
   obtain⟨es,o,σ1,h1,h2⟩:=acz h
   split at h2
   ·rename_i σ2 e
    have i:=af.sy e
    refine⟨_,?_,h2⟩
    simp only[cG.er,exec,tM,h1,af.dj]
    have:(SB.row true (JE o) ts es).er=ao.row true (JE o) ts.length (List.map (Ty.aH ts) es):=rfl
    rw[al4,<-this,i,List.length_map]
    rfl
   ·cases h2
  ·cases h
 |load ag sz x=>
  simp only[dU] at h
  split at h
  ·rename_i p hp
   obtain⟨l,h1,h2⟩:=Uu h
   have bi:σ.er.ev x.er=.one p.er:=by rw[af.di,hp];rfl
   have jO:loadAt σ.er.h p.er sz=some (l.map SC.er):=h1
   exact⟨_,by simp only[cG.er,exec,bi,jO,af.dj,Cr],h2⟩
  ·cases h
 |mQ ag sz x=>
  simp only[dU] at h
  split at h
  ·rename_i p hp
   obtain⟨σ1,h0,h⟩:=aol h
   obtain⟨l,h1,h2⟩:=Uu h
   have bi:σ.er.ev x.er=.one p.er:=by rw[af.di,hp];rfl
   have jO:loadAt σ1.er.h p.er sz=some (l.map SC.er):=h1
   exact⟨_,by simp only[cG.er,exec,bi,h0,jO,af.dj,Cr],h2⟩
  ·cases h
 |store sz x v=>
  simp only[dU] at h
  split at h
  ·rename_i n kk az off b vs hp hc
   have bq:=(bg h).1;replace h:=(bg h).2;subst bq
   have bi:σ.er.ev x.er=.one (.ptr n kk az off):=by rw[af.di,hp];rfl
   have cv:(σ.er.ev v.er).cells?=some (b,vs.map SC.er):=by rw[af.di];exact SV.lx hc
   split at h
   ·rename_i cs hn
    have bq:=(bg h).1;replace h:=(bg h).2;subst bq
    have hb:=(cm h).1;replace h:=(cm h).2
    have iY:=Nat.le_of_ble_eq_true hb
    refine⟨_,?_,h⟩
    simp only[cG.er,exec,bi,cv,List.length_map,if_true,Dg hn,SB.er,iY,and_self,af.oI,<-Ck]
   ·rename_i gr m ts xs hn
    have bq:=(bg h).1;replace h:=(bg h).2;subst bq
    rw[eP] at h
    obtain⟨e,he,h⟩:=h
    replace he:xs[kk]? =some e:=he
    obtain⟨σ1,s1,s2⟩:=aoV h
    refine⟨σ1,?_,s2⟩
    have ni:(List.map (Ty.aH ts) xs)[kk]? =some (Ty.aH ts e):=by rw[List.getElem?_map,he];rfl
    simp only[cG.er,exec,bi,cv,List.length_map,if_true,Dg hn,SB.er,ni,s1]
   ·cases h
  ·rename_i n kk az off s i b vs hp hc
   have bq:=(bg h).1;replace h:=(bg h).2;subst bq
   have bi:σ.er.ev x.er=.one (.cQ n kk az off s i):=by rw[af.di,hp];rfl
   have cv:(σ.er.ev v.er).cells?=some (b,vs.map SC.er):=by rw[af.di];exact SV.lx hc
   split at h
   ·rename_i gr us xs hn
    have bq:=(bg h).1;replace h:=(bg h).2;subst bq
    rw[eP] at h
    obtain⟨e,he,h⟩:=h
    replace he:xs[kk]? =some e:=he
    obtain⟨e',s1,s2⟩:=aoU he h
    refine⟨_,?_,s2⟩
    simp only[cG.er,exec,bi,cv,List.length_map,if_true,Dg hn,SB.er,s1,af.oI]
   ·cases h
  ·cases h
 |gE x=>
  simp only[dU] at h
  split at h
  ·rename_i n kk sz off hp
   have hb:=(cm h).1;replace h:=(cm h).2
   have bi:σ.er.ev x.er=.one (.ptr n kk sz off):=by rw[af.di,hp];rfl
   exact⟨_,by simp only[cG.er,exec,bi,AE hb,if_true,af.dj];rfl,h⟩
  ·rename_i ts y off hp
   have bi:σ.er.ev x.er=.one (.cu (Ty.aH ts y) off):=by rw[af.di,hp];rfl
   exact⟨_,by simp only[cG.er,exec,bi,af.dj];rfl,h⟩
  ·cases h
 |bin op x y=>
  simp only[dU] at h
  obtain⟨t,z,h1,h2⟩:=adO h
  exact⟨_,by simp only[cG.er,exec,af.di,h1,af.dj];rfl,h2⟩
 |oF op x y=>
  simp only[dU] at h
  obtain⟨t,z,h1,h2⟩:=adM h
  exact⟨_,by simp only[cG.er,exec,af.di,h1,af.dj];rfl,h2⟩
 |un op x=>
  simp only[dU] at h
  obtain⟨t,z,h1,h2⟩:=apr h
  exact⟨_,by simp only[cG.er,exec,af.di,h1,af.dj];rfl,h2⟩
 |conv kd x=>
  simp only[dU] at h
  split at h
  ·rename_i k' n hp
   have bi:σ.er.ev x.er=.one (.c (.int k' n)):=by rw[af.di,hp];rfl
   exact⟨_,by simp only[cG.er,exec,bi,af.dj];rfl,h⟩
  ·cases h
 |jF m ts by_ z l c=>
  simp only[dU] at h
  split at h
  ·rename_i n a b ha hb
   rw[eP] at h
   obtain⟨len,hm,h⟩:=h
   unfold n9 at hm
   split at hm
   ·rename_i cI
    injection hm with hm
    subst hm
    split at h
    ·rename_i σ1 e
     have i:=af.sy e
     have tV:(σ.er.ev l.er).df=some a:=by rw[af.di];exact SV.yH ha
     have aY:(σ.er.ev c.er).df=some b:=by rw[af.di];exact SV.yH hb
     refine⟨_,?_,h⟩
     have hz:(Ty.aH ts z).length=ts.length:=Ty.De ts z
     have fc:(SB.row true m ts (dT a.toNat z)).er=ao.row true m ts.length (List.replicate a.toNat (Ty.aH ts z)):=by simp[SB.er,dT,List.map_replicate]
     have N1:a<=b/\0<=a/\b.toNat*by_<=dF/\(Ty.aH ts z).length=ts.length:=⟨cI.1,cI.2.1,cI.2.2,hz⟩
     simp only[cG.er,exec,tV,aY,if_pos N1,<-fc,i,af.dj]
     rfl
    ·cases h
   ·cases hm
  ·cases h
 |slice sz x lo hi=>
  simp only[dU] at h
  split at h
  ·rename_i n s l0 len l hp el
   have bi:σ.er.ev x.er=.one (.sl n s l0 len):=by rw[af.di,hp];rfl
   split at h
   ·rename_i hh eh
    have bq:=(bg h).1;replace h:=(bg h).2;subst bq
    have hb:=(cm h).1;replace h:=(cm h).2
    rw[eP] at h
    obtain⟨p,hs,h⟩:=h
    unfold ib at hs
    split at hs
    ·rename_i cI
     injection hs with hs
     subst hs
     refine⟨_,?_,h⟩
     have t7:s=s/\0<=l/\l<=hh/\hh<=len/\(σ.er.h n).isSome=true:=⟨rfl,cI.1,cI.2.1,cI.2.2,AE hb⟩
     have e1:=JD el
     have e2:=JD eh
     rw[af.dj]
     cases lo with
     |none=>
      simp only[Option.map_none,Option.some.injEq] at e1
      subst e1
      cases hi with
      |none=>
       simp only[Option.map_none,Option.some.injEq] at e2
       subst e2
       simp only[cG.er,exec,bi,Option.map_none]
       exact if_pos ⟨trivial,t7.2⟩
      |some q=>
       simp only[Option.map_some] at e2
       simp only[cG.er,exec,bi,Option.map_none,Option.map_some,e2]
       exact if_pos ⟨trivial,t7.2⟩
     |some q0=>
      simp only[Option.map_some] at e1
      cases hi with
      |none=>
       simp only[Option.map_none,Option.some.injEq] at e2
       subst e2
       simp only[cG.er,exec,bi,Option.map_none,Option.map_some,e1]
       exact if_pos ⟨trivial,t7.2⟩
      |some q=>
       simp only[Option.map_some] at e2
       simp only[cG.er,exec,bi,Option.map_some,e1,e2]
       exact if_pos ⟨trivial,t7.2⟩
    ·cases hs
   ·cases h
  ·rename_i ts xs l hp el
   have bi:σ.er.ev x.er=.one (.c (.list ts.length (List.map (Ty.aH ts) xs))):=by rw[af.di,hp];rfl
   split at h
   ·rename_i hh eh
    have bq:=(bg h).1;replace h:=(bg h).2;subst bq
    rw[eP] at h
    obtain⟨p,hs,h⟩:=h
    unfold ib at hs
    split at hs
    ·rename_i cI
     injection hs with hs
     subst hs
     refine⟨_,?_,h⟩
     have t7:ts.length=ts.length/\0<=l/\l<=hh/\hh<=(List.map (Ty.aH ts) xs).length:=⟨rfl,cI.1,cI.2.1,Int.le_trans cI.2.2 (Int.le_of_eq (congrArg _ (List.length_map (Ty.aH ts)).symm))⟩
     have e1:=JD el
     have e2:(match hi.map cC.er with|none=>some (((List.map (Ty.aH ts) xs).length:Nat):Int)|some q=>(σ.er.ev q).df)=some hh:=by rw[show(List.map (Ty.aH ts) xs).length=List.length (α:=Ty.DL ts) xs from List.length_map (Ty.aH ts)];exact JD eh
     rw[af.dj]
     have IQ:List.map (Ty.aH ts) (List.take (hh - l).toNat (List.drop (α:=Ty.DL ts) l.toNat xs))=((List.map (Ty.aH ts) xs).drop l.toNat).take (hh - l).toNat:=by
      rw[List.map_take]
      exact congrArg (List.take (hh - l).toNat) List.map_drop
     refine Eq.trans ?_ (congrArg (fun q=>some (σ.er.put d (aj.one (.c (.list ts.length q))))) IQ.symm)
     cases lo with
     |none=>
      simp only[Option.map_none,Option.some.injEq] at e1
      subst e1
      cases hi with
      |none=>
       simp only[Option.map_none,Option.some.injEq] at e2
       subst e2
       simp only[cG.er,exec,bi,Option.map_none]
       exact if_pos ⟨trivial,t7.2⟩
      |some q=>
       simp only[Option.map_some] at e2
       simp only[cG.er,exec,bi,Option.map_none,Option.map_some,e2]
       exact if_pos ⟨trivial,t7.2⟩
     |some q0=>
      simp only[Option.map_some] at e1
      cases hi with
      |none=>
       simp only[Option.map_none,Option.some.injEq] at e2
       subst e2
       simp only[cG.er,exec,bi,Option.map_none,Option.map_some,e1]
       exact if_pos ⟨trivial,t7.2⟩
      |some q=>
       simp only[Option.map_some] at e2
       simp only[cG.er,exec,bi,Option.map_some,e1,e2]
       exact if_pos ⟨trivial,t7.2⟩
    ·cases hs
   ·cases h
  ·cases h
 |tail sz x lo=>
  simp only[dU] at h
  split at h
  ·rename_i n a0 s l0 len l hp hl
   have bi:σ.er.ev x.er=.one (.sl a0 s l0 len):=by rw[af.di,hp];rfl
   have dw:(σ.er.ev lo.er).df=some l:=by rw[af.di];exact SV.yH hl
   split at h
   ·rename_i m ts xs hn
    have bq:=(bg h).1;replace h:=(bg h).2;subst bq
    have bq:=(bg h).1;replace h:=(bg h).2;subst bq
    have bq:=(bg h).1;replace h:=(bg h).2;subst bq
    rw[eP] at h
    obtain⟨_,hf,h⟩:=h
    obtain⟨_,hlen⟩:=NJ hf
    rw[eP] at h
    obtain⟨p,hs,h⟩:=h
    unfold ib at hs
    split at hs
    ·rename_i cI
     injection hs with hs
     subst hs
     simp only at h
     split at h
     ·rename_i σ1 e1
      refine⟨_,?_,h⟩
      have ahe:len=xs.length:=hlen
      have YD:0<=l/\l<=(xs.length:Int):=⟨cI.1,cI.2.1⟩
      have bj:σ.er.h a0=some (.row true m ts.length (List.map (Ty.aH ts) xs)):=by simp[af.er,cU,hn,SB.er]
      have i1:=af.sy e1
      have e2:(aI (J xs) - l).toNat=xs.length - l.toNat:=by simp only[aI,J];omega
      have e3:gu xs l.toNat (aI (J xs) - l).toNat=xs.drop l.toNat:=by rw[e2];unfold gu;rw[List.take_of_length_le (by simp)]
      rw[e3] at i1
      simp only[SB.er,af.Ic,List.map_drop] at i1
      simp only[cG.er,exec,bi,dw,bj,List.length_map,ahe,YD.1,YD.2,and_self,if_true,i1,af.dj,SV.er,SC.er,e2]
     ·cases h
    ·cases hs
   ·cases h
  ·cases h
 |aF off x=>
  simp only[dU] at h
  split at h
  ·rename_i n kk sz o hp
   have hb:=(cm h).1;replace h:=(cm h).2
   have bi:σ.er.ev x.er=.one (.ptr n kk sz o):=by rw[af.di,hp];rfl
   exact⟨_,by simp only[cG.er,exec,bi,AE hb,if_true,af.dj];rfl,h⟩
  ·rename_i ts y o hp
   have bi:σ.er.ev x.er=.one (.cu (Ty.aH ts y) o):=by rw[af.di,hp];rfl
   exact⟨_,by simp only[cG.er,exec,bi,af.dj];rfl,h⟩
  ·cases h
 |bX sz x i=>
  simp only[dU] at h
  split at h
  ·rename_i n s lo len j hp hi
   have bq:=(bg h).1;replace h:=(bg h).2;subst bq
   have hb:=(cm h).1;replace h:=(cm h).2
   rw[eP] at h
   obtain⟨q,hq,h⟩:=h
   unfold fj at hq
   split at hq
   ·rename_i cI
    injection hq with hq
    subst hq
    have bi:σ.er.ev x.er=.one (.sl n s lo len):=by rw[af.di,hp];rfl
    have hi':(σ.er.ev i.er).df=some j:=by rw[af.di];exact SV.yH hi
    refine⟨_,?_,h⟩
    have N1:s=s/\0<=j/\j<len/\(σ.er.h n).isSome=true:=⟨rfl,cI.1,cI.2,AE hb⟩
    simp only[cG.er,exec,bi,hi',af.dj]
    exact if_pos ⟨trivial,N1.2⟩
   ·cases hq
  ·rename_i ts xs j hp hi
   have bq:=(bg h).1;replace h:=(bg h).2;subst bq
   rw[eP] at h
   obtain⟨e,he,h⟩:=h
   unfold dK at he
   split at he
   ·rename_i cI
    have bi:σ.er.ev x.er=.one (.c (.list ts.length (List.map (Ty.aH ts) xs))):=by rw[af.di,hp];rfl
    have hi':(σ.er.ev i.er).df=some j:=by rw[af.di];exact SV.yH hi
    have ni:(List.map (Ty.aH ts) xs)[j.toNat]? =some (Ty.aH ts e):=ajq (Ty.aH ts) he
    refine⟨_,?_,h⟩
    simp only[cG.er,exec,bi,hi',cI,and_self,if_true,ni,af.dj]
    rfl
   ·cases he
  ·rename_i n kk az off s len j hp hi
   obtain⟨t,y,h1,h2⟩:=Cq h
   have bi:σ.er.ev x.er=.one (.bz n kk az off s len):=by rw[af.di,hp];rfl
   have hi':(σ.er.ev i.er).df=some j:=by rw[af.di];exact SV.yH hi
   have jO:cg σ.er.h (.bz n kk az off s len)=some (t.er y):=h1
   split at h2
   ·rename_i ts ys
    have bq:=(bg h2).1;replace h2:=(bg h2).2;subst bq
    rw[eP] at h2
    obtain⟨q,hq,h2⟩:=h2
    unfold fj at hq
    split at hq
    ·rename_i cI
     injection hq with hq
     subst hq
     refine⟨_,?_,h2⟩
     simp only[cG.er,exec,bi,hi',jO,Ty.er,af.dj]
     exact if_pos ⟨trivial,cI.1,by rw[show(List.map (Ty.aH ts) ys).length=J (α:=Ty.DL ts) ys from List.length_map (Ty.aH ts)];exact cI.2⟩
    ·cases hq
   ·cases h2
  ·cases h
 |ext i x=>
  simp only[dU] at h
  split at h
  ·rename_i xs hp
   split at h
   ·rename_i ag cs hg
    have bi:σ.er.ev x.er=.bn (xs.map fun x=>(x.1,x.2.map SC.er)):=by rw[af.di,hp];rfl
    refine⟨_,?_,h⟩
    simp only[cG.er,exec,bi,List.getElem?_map,hg,Option.map_some,af.dj,Cr]
   ·cases h
  ·cases h
 |oM ag off sz x=>
  simp only[dU] at h
  split at h
  ·rename_i cs hp
   have bi:σ.er.ev x.er=.agg (cs.map SC.er):=by rw[af.di,hp];rfl
   split at h
   ·rename_i l hl
    exact⟨_,by simp only[cG.er,exec,bi,tj,hl,Option.map_some,af.dj,Cr],h⟩
   ·cases h
  ·cases h
 |ou f bH x=>
  simp only[dU] at h
  split at h
  ·rename_i n sz lo len hp
   have hb:=(cm h).1;replace h:=(cm h).2
   have bi:σ.er.ev x.er=.one (.sl n sz lo len):=by rw[af.di,hp];rfl
   refine⟨_,?_,h⟩
   simp only[cG.er,exec,bi,AE hb,if_true,af.dj]
   rw[show(SV.agg (ti bH (aI len) (.sl n sz lo len))).er=.agg ((ti bH (aI len) (.sl n sz lo len)).map SC.er) from rfl,US]
   rfl
  ·rename_i ts xs hp
   have bi:σ.er.ev x.er=.one (.c (.list ts.length (List.map (α:=Ty.DL ts) (Ty.aH ts) xs))):=by rw[af.di,hp];rfl
   refine⟨_,?_,h⟩
   simp only[cG.er,exec,bi,af.dj]
   rw[show(SV.agg (ti bH (aI (J (α:=Ty.DL ts) xs)) (.v (.list ts) xs))).er=.agg ((ti bH (aI (J (α:=Ty.DL ts) xs)) (.v (.list ts) xs)).map SC.er) from rfl,US]
   congr 3
   congr 1
   exact congrArg Int.ofNat (List.length_map (as:=(xs:List (Ty.DL ts))) (Ty.aH ts))
  ·rename_i ts hp
   have bi:σ.er.ev x.er=.one (.nil ts.length):=by rw[af.di,hp];rfl
   refine⟨_,?_,h⟩
   simp only[cG.er,exec,bi,af.dj]
   rw[show(SV.agg (ti bH (0:Int) (.nil ts))).er=.agg ((ti bH (0:Int) (.nil ts)).map SC.er) from rfl,US]
   rfl
  ·cases h
 |len x=>
  simp only[dU] at h
  split at h
  ·rename_i n sz lo len hp
   have hb:=(cm h).1;replace h:=(cm h).2
   have bi:σ.er.ev x.er=.one (.sl n sz lo len):=by rw[af.di,hp];rfl
   exact⟨_,by simp only[cG.er,exec,bi,AE hb,if_true,af.dj];rfl,h⟩
  ·rename_i ts xs hp
   have bi:σ.er.ev x.er=.one (.c (.list ts.length (List.map (Ty.aH ts) xs))):=by rw[af.di,hp];rfl
   exact⟨_,by simp only[cG.er,exec,bi,af.dj];exact congrArg (fun q:Nat=>some (σ.er.put d (aj.one (.c (.int .i64 (q:Int)))))) (List.length_map (Ty.aH ts)),h⟩
  ·rename_i ts hp
   have bi:σ.er.ev x.er=.one (.nil ts.length):=by rw[af.di,hp];rfl
   exact⟨_,by simp only[cG.er,exec,bi,af.dj];rfl,h⟩
  ·rename_i n kk az off sz len hp
   obtain⟨t,y,h1,h2⟩:=Cq h
   have bi:σ.er.ev x.er=.one (.bz n kk az off sz len):=by rw[af.di,hp];rfl
   have jO:cg σ.er.h (.bz n kk az off sz len)=some (t.er y):=h1
   split at h2
   ·rename_i ts ys
    exact⟨_,by simp only[cG.er,exec,bi,jO,Ty.er,af.dj];exact congrArg (fun q:Nat=>some (σ.er.put d (aj.one (.c (.int .i64 (q:Int)))))) (List.length_map (Ty.aH ts)),h2⟩
   ·cases h2
  ·cases h
 |append fl ts by_ x y=>
  simp only[dU] at h
  split at h
  ·cases h
  ·rename_i n
   obtain⟨xs,m,σ1,h1,h2⟩:=an1 h
   obtain⟨ys,m2,σ2,h3,h4⟩:=an2 h2
   rw[eP] at h4
   obtain⟨_,hf,h4⟩:=h4
   unfold jt at hf
   split at hf
   ·rename_i hb
    split at h4
    ·rename_i gI e
     have i:=af.sy e
     refine⟨_,?_,h4⟩
     replace hb:(xs.length+ys.length)*by_<=dF:=hb
     have fc:(SB.row true m2 ts (dt xs ys)).er=ao.row true m2 ts.length (List.map (Ty.aH ts) xs++List.map (Ty.aH ts) ys):=by simp[SB.er,dt]
     simp only[cG.er,exec,af.di,h1,h3,List.length_map,hb,if_true,<-fc,i,af.dj]
     rfl
    ·cases h4
   ·cases hf
 |mm mx x y=>
  simp only[dU] at h
  split at h
  ·rename_i kd a ZO b ex ey
   have Xv:σ.er.ev x.er=.one (.c (.int kd a)):=by rw[af.di,ex];rfl
   have XK:σ.er.ev y.er=.one (.c (.int ZO b)):=by rw[af.di,ey];rfl
   split at h
   ·refine⟨_,?_,h⟩
    rw[af.dj]
    simp only[cG.er,exec,Xv,XK,if_true]
    by_cases eQ:LT.lt (α:=Int) a b
    ·exact(if_pos eQ).trans (congrArg (fun q:Int=>some (σ.er.put d (aj.one (.c (.int kd q))))) (if_pos eQ:yS a b=b).symm)
    ·exact(if_neg eQ).trans (congrArg (fun q:Int=>some (σ.er.put d (aj.one (.c (.int kd q))))) (if_neg eQ:yS a b=a).symm)
   ·refine⟨_,?_,h⟩
    rw[af.dj]
    simp only[cG.er,exec,Xv,XK,Bool.false_eq_true,if_false]
    by_cases eQ:LT.lt (α:=Int) b a
    ·exact(if_pos eQ).trans (congrArg (fun q:Int=>some (σ.er.put d (aj.one (.c (.int kd q))))) (if_pos eQ:n7 a b=b).symm)
    ·exact(if_neg eQ).trans (congrArg (fun q:Int=>some (σ.er.put d (aj.one (.c (.int kd q))))) (if_neg eQ:n7 a b=a).symm)
  ·cases h
 |call m f xs=>
  simp only[dU] at h
  obtain⟨σ1,h1,h2⟩:=abK h
  exact⟨σ1,by simp only[cG.er,exec,tM];exact h1,h2⟩
 |copy x y=>
  simp only[dU] at h
  split at h
  ·rename_i n s lo len c hp hq
   split at h
   ·rename_i gr m ts xs hn
    have bq:=(bg h).1;replace h:=(bg h).2;subst bq
    have ht:=(bg h).1;replace h:=(bg h).2
    have hb:=(cm h).1;replace h:=(cm h).2
    simp only[Bool.and_eq_true] at hb
    obtain⟨u,ys,h1,h2⟩:=Cq h
    split at h2
    ·rename_i us ys
     split at h2
     ·rename_i zs hz
      rw[eP] at h2
      obtain⟨aq,hc,h2⟩:=h2
      refine⟨_,?_,h2⟩
      have bi:σ.er.ev x.er=.one (.sl n 1 lo len):=by rw[af.di,hp];rfl
      have eA:σ.er.ev y.er=.one c.er:=by rw[af.di,hq];rfl
      have rF:Ty.er (.list us) ys=Ty.er (.list ts) zs:=by
       have:=Ty.adW hz
       exact this
      have jO:cg σ.er.h c.er=some (.list ts.length (List.map (Ty.aH ts) zs)):=by
       have:cg σ.er.h c.er=some (Ty.er (.list us) ys):=h1
       rw[this,rF];rfl
      obtain⟨c1,c2⟩:=W0 hc
      have gZ:m≠ .aD:=by rintro rfl;exact absurd hb.1 (by simp[Mode.own])
      simp only[cG.er,exec,bi,eA,Dg hn,SB.er,jO]
      rw[if_pos ⟨trivial,trivial,ht,ht,gZ,zf ts xs hb.2,zf ts zs hb.2,by rw[List.length_map];exact c1⟩]
      rw[af.dj,af.oI]
      simp only[SB.er,c2,ht]
      rw[show List.map (Ty.aH ts) (List.take (α:=Ty.DL ts) len zs)=List.take len (List.map (Ty.aH ts) zs) from List.map_take,show(List.map (Ty.aH ts) zs).length=J (α:=Ty.DL ts) zs from List.length_map _]
      rfl
     ·cases h2
    ·cases h2
   ·cases h
  ·cases h
 |kB t z x=>
  simp only[dU] at h
  split at h
  ·rename_i n s lo len hp
   split at h
   ·rename_i gr m ts xs hn
    have bq:=(bg h).1;replace h:=(bg h).2;subst bq
    have hb:=(cm h).1;replace h:=(cm h).2
    simp only[Bool.and_eq_true] at hb
    split at h
    ·rename_i e he
     rw[eP] at h
     obtain⟨aq,hc,h⟩:=h
     refine⟨_,?_,h⟩
     have bi:σ.er.ev x.er=.one (.sl n 1 lo len):=by rw[af.di,hp];rfl
     have lF:Ty.aH ts e=[t.er z]:=wH he
     have hlen:ts.length=1:=by
      have:=congrArg List.length lF
      rw[Ty.De] at this
      exact this
     have sM:Ty.fA ts=true:=by
      have:=Ty.J0 ts e
      rw[lF] at this
      simp only[Am.fA,List.all_cons,List.all_nil,Bool.and_true,Ty.wX,hb.2] at this
      exact this.symm
     obtain⟨c1,c2⟩:=W0 hc
     have gZ:m≠ .aD:=by rintro rfl;exact absurd hb.1 (by simp[Mode.own])
     simp only[cG.er,exec,bi,Dg hn,SB.er]
     rw[if_pos ⟨trivial,hlen,by rw[Ty.wX];exact hb.2,gZ,zf ts xs sM,by rw[List.length_map];exact c1⟩]
     rw[af.dj,af.oI]
     simp only[SB.er,c2,hlen,dT,List.map_replicate,lF]
     rfl
    ·cases h
   ·cases h
  ·cases h
 |mh f xs=>
  simp only[dU] at h
  obtain⟨v,h1,h2⟩:=aoc h
  refine⟨_,?_,h2⟩
  simp only[cG.er,exec,tM]
  rw[h1]
  simp only[af.dj]
 |pq f xs=>
  simp only[dU] at h
  split at h
  ·rename_i cs hc
   obtain⟨h1,h2⟩:=ab5 hc
   refine⟨_,?_,h⟩
   simp only[cG.er,exec,tM]
   split
   ·rename_i cs' e
    have e2:some cs'=some (cs.map SC.er):=e.symm.trans h1
    injection e2 with e2
    subst e2
    rw[if_pos h2,af.dj]
    simp only[SV.er,SC.er,SC.Dh]
   ·rename_i e
    have e2:none=some (cs.map SC.er):=e.symm.trans h1
    cases e2
  ·cases h
 |gd m f xs=>
  simp only[dU] at h
  obtain⟨σ1,h1,h2⟩:=aod h
  exact⟨σ1,by simp only[cG.er,exec,tM];exact h1,h2⟩
 |du f xs=>
  simp only[dU] at h
  obtain⟨σ1,h1,h2⟩:=aob h
  exact⟨σ1,by simp only[cG.er,exec,tM];exact h1,h2⟩
 |lv f xs=>
  simp only[dU] at h
  obtain⟨v,h1,h2⟩:=aoe h
  exact⟨σ.put d v,by simp only[cG.er,exec,tM,h1,af.dj],h2⟩
 |mq f xs=>
  simp only[dU] at h
  obtain⟨v,h1,h2⟩:=aof h
  exact⟨σ.put d v,by simp only[cG.er,exec,tM,h1,af.dj],h2⟩
 |mn m x xs=>
  simp only[dU] at h
  split at h
  ·rename_i f cr hp
   have bi:σ.er.ev x.er=.one (.fn f (cr.map SC.er)):=by rw[af.di,hp];simp only[SV.er,SC.er,SC.Dh]
   obtain⟨σ1,h1,h2⟩:=abK h
   refine⟨σ1,?_,h2⟩
   simp only[cG.er,exec,bi,tM]
   rw[List.map_append] at h1
   simp only[List.map_map] at h1⊢
   exact h1
  ·cases h
structure fi where
 dst:Option Nat
 op:cG
 guard:Option (Nat×Bool)
def fi.er (o:fi):bR:=⟨o.dst,o.op.er,o.guard⟩
def af.lit (σ:af) (n:Nat) (b:Bool):af:={σ with env:=au σ.env n (.one (.v .bool b))}
theorem af.Df {σ:af} {n:Nat} {b:Bool} (h:σ.env n=.one (.v .bool b)):(σ.lit n b).er=σ.er:=by
 have:au σ.env n (.one (.v .bool b))=σ.env:=by
  funext s
  simp only[iP]
  split
  ·rename_i hs;subst hs;exact h.symm
  ·rfl
 simp only[af.lit,this]
def qK (T:List ar):List fi->af->(af->Option ρ)->Option ρ
 |[],σ,k=>k σ
 |o::os,σ,k=>match o.guard with
  |none=>dU T o.dst o.op σ fun σ1=>qK T os σ1 k
  |some (s,ky)=>match σ.env s with
   |.one (.v .bool b)=>aC b
    (match ky with
     |true=>dU T o.dst o.op (σ.lit s true) fun σ1=>qK T os σ1 k
     |false=>qK T os ((σ.lit s true).put o.dst (.bn [])) k)
    (match ky with
     |true=>qK T os ((σ.lit s false).put o.dst (.bn [])) k
     |false=>dU T o.dst o.op (σ.lit s false) fun σ1=>qK T os σ1 k)
   |.bn []=>qK T os (σ.put o.dst (.bn [])) k
   |_=>none
theorem Uj {T:List ar}:∀{os:List fi} {σ:af} {k:af->Option ρ} {r:ρ},qK T os σ k=some r->
  ∃σ1:af,j7 (cL T) (os.map fi.er) σ.er=some σ1.er/\k σ1=some r
 |[],σ,k,r,h=>⟨σ,rfl,h⟩
 |o::os,σ,k,r,h=>by
  obtain⟨d,op,g⟩:=o
  have run:∀jK:af,jK.er=σ.er->d7 (cL T) (fi.er ⟨d,op,g⟩) σ.er=exec (cL T) d op.er σ.er->dU T d op jK (fun σ1=>qK T os σ1 k)=some r->
    ∃σ1:af,j7 (cL T) ((⟨d,op,g⟩::os).map fi.er) σ.er=some σ1.er/\k σ1=some r:=by
   intro jK h0 he hs
   obtain⟨σ1,h1,h2⟩:=abO hs
   obtain⟨σ2,h3,h4⟩:=Uj h2
   rw[h0] at h1
   exact⟨σ2,by simp only[List.map_cons,j7,he,h1,h3],h4⟩
  have zj:∀jK:af,jK.er=σ.er->d7 (cL T) (fi.er ⟨d,op,g⟩) σ.er=some (σ.er.put d (.bn []))->qK T os (jK.put d (.bn [])) k=some r->
    ∃σ1:af,j7 (cL T) ((⟨d,op,g⟩::os).map fi.er) σ.er=some σ1.er/\k σ1=some r:=by
   intro jK h0 he hs
   obtain⟨σ2,h3,h4⟩:=Uj hs
   rw[af.dj,h0] at h3
   exact⟨σ2,by simp only[List.map_cons,j7,he];exact h3,h4⟩
  cases g with
  |none=>exact run σ rfl rfl h
  |some g=>
   obtain⟨s,ky⟩:=g
   simp only[qK] at h
   split at h
   ·rename_i b hs
    have jT:σ.er.env s=.one (.c (.bool b)):=by show(σ.env s).er=_;rw[hs];rfl
    cases hb:(b:Bool) with
    |true=>
     have h0:(σ.lit s true).er=σ.er:=af.Df (by rw[hs,hb])
     rw[hb] at h
     simp only[HN] at h
     cases ky with
     |true=>exact run _ h0 (by simp[d7,fi.er,jT,hb]) h
     |false=>exact zj _ h0 (by simp[d7,fi.er,jT,hb]) h
    |false=>
     have h0:(σ.lit s false).er=σ.er:=af.Df (by rw[hs,hb])
     rw[hb] at h
     simp only[C3] at h
     cases ky with
     |true=>exact zj _ h0 (by simp[d7,fi.er,jT,hb]) h
     |false=>exact run _ h0 (by simp[d7,fi.er,jT,hb]) h
   ·rename_i hs
    have jT:σ.er.env s=.bn []:=by show(σ.env s).er=_;rw[hs];rfl
    exact zj σ rfl (by simp[d7,fi.er,jT]) h
   ·cases h
def qL (T:List ar) (ps:List (Nat×Nat)):List fi->List (Option FP)->af->(af->Option ρ)->Option ρ
 |[],cO,σ,k=>e7 (wO ps cO) (k σ)
 |o::os,cO,σ,k=>match o.guard with
  |none=>dU T o.dst o.op σ fun σ1=>qL T ps os (cO++[o.er.fp σ.er]) σ1 k
  |some (s,ky)=>match σ.env s with
   |.one (.v .bool b)=>aC b
    (match ky with
     |true=>dU T o.dst o.op (σ.lit s true) fun σ1=>qL T ps os (cO++[o.er.fp (σ.lit s true).er]) σ1 k
     |false=>qL T ps os (cO++[o.er.fp (σ.lit s true).er]) ((σ.lit s true).put o.dst (.bn [])) k)
    (match ky with
     |true=>qL T ps os (cO++[o.er.fp (σ.lit s false).er]) ((σ.lit s false).put o.dst (.bn [])) k
     |false=>dU T o.dst o.op (σ.lit s false) fun σ1=>qL T ps os (cO++[o.er.fp (σ.lit s false).er]) σ1 k)
   |.bn []=>qL T ps os (cO++[o.er.fp σ.er]) (σ.put o.dst (.bn [])) k
   |_=>none
theorem Ui {T:List ar} {ps:List (Nat×Nat)}:∀{os:List fi} {cO:List (Option FP)} {σ:af} {k:af->Option ρ} {r:ρ},qL T ps os cO σ k=some r->
  ∃(σ1:af) (fs:List (Option FP)),mz (cL T) (os.map fi.er) cO σ.er=some (fs,σ1.er)/\wO ps fs=true/\k σ1=some r
 |[],cO,σ,k,r,h=>⟨σ,cO,rfl,(cm h).1,(cm h).2⟩
 |o::os,cO,σ,k,r,h=>by
  obtain⟨d,op,g⟩:=o
  have run:∀jK:af,jK.er=σ.er->d7 (cL T) (fi.er ⟨d,op,g⟩) σ.er=exec (cL T) d op.er σ.er->dU T d op jK (fun σ1=>qL T ps os (cO++[(fi.er ⟨d,op,g⟩).fp jK.er]) σ1 k)=some r->
    ∃(σ1:af) (fs:List (Option FP)),mz (cL T) ((⟨d,op,g⟩::os).map fi.er) cO σ.er=some (fs,σ1.er)/\wO ps fs=true/\k σ1=some r:=by
   intro jK h0 he hs
   obtain⟨σ1,h1,h2⟩:=abO hs
   obtain⟨σ2,fs,h3,h4⟩:=Ui h2
   rw[h0] at h1 h3
   exact⟨σ2,fs,by simp only[List.map_cons,mz,he,h1,h3],h4⟩
  have zj:∀jK:af,jK.er=σ.er->d7 (cL T) (fi.er ⟨d,op,g⟩) σ.er=some (σ.er.put d (.bn []))->qL T ps os (cO++[(fi.er ⟨d,op,g⟩).fp jK.er]) (jK.put d (.bn [])) k=some r->
    ∃(σ1:af) (fs:List (Option FP)),mz (cL T) ((⟨d,op,g⟩::os).map fi.er) cO σ.er=some (fs,σ1.er)/\wO ps fs=true/\k σ1=some r:=by
   intro jK h0 he hs
   obtain⟨σ2,fs,h3,h4⟩:=Ui hs
   rw[af.dj,h0] at h3
   exact⟨σ2,fs,by simp only[List.map_cons,mz,he];exact h3,h4⟩
  cases g with
  |none=>exact run σ rfl rfl h
  |some g=>
   obtain⟨s,ky⟩:=g
   simp only[qL] at h
   split at h
   ·rename_i b hs
    have jT:σ.er.env s=.one (.c (.bool b)):=by show(σ.env s).er=_;rw[hs];rfl
    cases hb:(b:Bool) with
    |true=>
     have h0:(σ.lit s true).er=σ.er:=af.Df (by rw[hs,hb])
     rw[hb] at h
     simp only[HN] at h
     cases ky with
     |true=>exact run _ h0 (by simp[d7,fi.er,jT,hb]) h
     |false=>exact zj _ h0 (by simp[d7,fi.er,jT,hb]) h
    |false=>
     have h0:(σ.lit s false).er=σ.er:=af.Df (by rw[hs,hb])
     rw[hb] at h
     simp only[C3] at h
     cases ky with
     |true=>exact zj _ h0 (by simp[d7,fi.er,jT,hb]) h
     |false=>exact run _ h0 (by simp[d7,fi.er,jT,hb]) h
   ·rename_i hs
    have jT:σ.er.env s=.bn []:=by show(σ.env s).er=_;rw[hs];rfl
    exact zj σ rfl (by simp[d7,fi.er,jT]) h
   ·cases h
end
end Go.Am
