/- S4: operations of the typed evaluator. No condition. -/
import Derived.Test.YtbgmbplglejidaaS3
set_option linter.unusedVariables false
namespace Go.Am
theorem aj1 {α β:Type} (f:α->β) {l:List α} {i:Nat} {e:α} (h:l[i]? =some e):(l.map f)[i]? =some (f e):=by rw[List.getElem?_map,h];rfl
section
variable {ρ:Type}
def Kw:Bool->Mode
 |true=>.ab
 |false=>.aF
theorem amx (o:Bool):(if o=true then Mode.ab else .aF)=Kw o:=by cases o<;>rfl
def Ku (σ:af) (d:Int) (o:Option cE):Option Int:=
 match o with
 |none=>some d
 |some q=>(σ.ev q).dj
theorem Kv {σ:af} {d l:Int} {o:Option cE} (h:Ku σ d o=some l):(match o.map cE.er with|none=>some d|some q=>(σ.er.ev q).dj)=some l:=by
 cases o with
 |none=>exact h
 |some q=>simp only[Option.map_some,af.dv];exact SV.y3 h
def tK (bK:Bool) (n:Int) (c:SC):List SC:=match bK with
 |true=>[.v (.int .i64) n,.v (.int .i64) (1:Int),c]
 |false=>[.v (.int .i64) (1:Int),.v (.int .i64) n,c]
theorem VC (bK:Bool) (n:Int) (c:SC):(tK bK n c).map SC.er=lJ bK n c.er:=by cases bK<;>rfl
def zG:List SC->Option (List TD)
 |[]=>some []
 |.v t x::l=>match t.eR with
  |true=>match zG l with
   |some ds=>some (⟨t,x⟩::ds)
   |none=>none
  |false=>none
 |_::_=>none
theorem acy:∀{vs:List SC} {ds:List TD},zG vs=some ds->me (vs.map SC.er)=some (cF ds)
 |[],ds,h=>by simp only[zG] at h;injection h with h;subst h;rfl
 |c::vs,ds,h=>by
  cases c with
  |v t x=>
   simp only[zG] at h
   split at h
   ·rename_i hs
    split at h
    ·rename_i l hl
     injection h with h
     subst h
     simp only[List.map_cons,SC.er,me,Ty.xg,hs,if_true,acy hl,cF,Option.map_some]
    ·cases h
   ·cases h
  |_=>simp[zG] at h
def VE (us:List Ty) (e:Ty.DL us) (off s i:Nat) (vs:List SC) (k:Ty.DL us->Option ρ):Option ρ:=
 match(Ty.ie us e)[off]? with
 |some ⟨.list ts,ys⟩=>cP ts.length s (cP vs.length s (fb (Ty.fA ts) ((cZ (α:=Ty.DL ts) ys i).aa fun _=>match zG vs with
  |some ds=>match q9 ts ds with
   |some el=>match KU us e off ⟨.list ts,bF (α:=Ty.DL ts) ys i el⟩ with
    |some e'=>k e'
    |none=>none
   |none=>none
  |none=>none)))
 |_=>none
theorem aoM {us ts:List Ty} {xs:List (Ty.DL us)} {kk off i:Nat} {e e':Ty.DL us} {vs:List SC} {ds:List TD} {el y0:Ty.DL ts} (ys:List (Ty.DL ts)) (he:xs[kk]? =some e) (hd:(Ty.ie us e)[off]? =some ⟨.list ts,ys⟩)
  (iP:vs.length=ts.length) (hs:Ty.fA ts=true) (hy:ys[i]? =some y0) (nJ:zG vs=some ds) (mr:q9 ts ds=some el) (yO:KU us e off ⟨.list ts,bF ys i el⟩=some e'):
  vk (List.map (Ty.aI us) xs) kk off ts.length i (vs.map SC.er)=some (List.map (Ty.aI us) (bF xs kk e')):=by
 have nN:(Ty.aI us e)[off]? =some (.list ts.length (List.map (Ty.aI ts) ys)):=Nm hd
 have hx:(List.map (Ty.aI us) xs)[kk]? =some (Ty.aI us e):=by rw[List.getElem?_map,he];rfl
 have hi:i<(List.map (Ty.aI ts) ys).length:=by rw[List.length_map];exact(List.getElem?_eq_some_iff.1 hy).1
 have ZY:Ty.aI us e'=(Ty.aI us e).set off (.list ts.length (List.map (Ty.aI ts) (bF ys i el))):=acB yO
 unfold vk
 rw[hx,Option.bind_some,nN]
 simp only
 rw[if_pos ⟨trivial,by simpa using iP,hi,zF ts ys hs⟩,acy nJ,List.getD_eq_getElem?_getD,hx]
 simp only[Option.map_some,Option.getD_some]
 unfold bF at ZY⊢
 rw[List.map_set,ZY,List.map_set,wU mr]
theorem apl {us:List Ty} {xs:List (Ty.DL us)} {kk:Nat} {e:Ty.DL us} {off s i:Nat} {vs:List SC} {k:Ty.DL us->Option ρ} {r:ρ} (he:xs[kk]? =some e) (h:VE us e off s i vs k=some r):
  ∃e',vk (List.map (Ty.aI us) xs) kk off s i (vs.map SC.er)=some (List.map (Ty.aI us) (bF xs kk e'))/\k e'=some r:=by
 unfold VE at h
 split at h
 ·rename_i ts ys hd
  have wk:=(bi h).1;replace h:=(bi h).2
  have uB:=(bi h).1;replace h:=(bi h).2
  have hs:=(cv h).1;replace h:=(cv h).2
  rw[eT] at h
  obtain⟨y0,hy,h⟩:=h
  split at h
  ·rename_i ds nJ
   split at h
   ·rename_i el mr
    split at h
    ·rename_i e' yO
     subst wk
     exact⟨e',aoM ys he hd uB hs hy nJ mr yO,h⟩
    ·cases h
   ·cases h
  ·cases h
 ·cases h
def dX (T:List aw) (d:Option Nat) (op:cI) (σ:af) (k:af->Option ρ):Option ρ:=
 match op with
 |.mv x=>k (σ.put d (σ.ev x))
 |.pick c x y=>match σ.ev c with
  |.one (.v .bool b)=>match σ.ev x,σ.ev y with
   |.one (.v t x'),.one (.v u y')=>match Ty.cast u t y' with
    |some z=>k (σ.put d (.one (.v t (aG b x' z))))
    |none=>aG b (k (σ.put d (σ.ev x))) (k (σ.put d (σ.ev y)))
   |_,_=>aG b (k (σ.put d (σ.ev x))) (k (σ.put d (σ.ev y)))
  |_=>none
 |.alloc zs=>match d with
  |some n=>match σ.ins n (.box zs) with
   |some σ1=>k (σ1.put d (.one (.ptr n 0 0 0)))
   |none=>none
  |none=>none
 |.box sz x=>match d,(σ.ev x).cells? with
  |some n,some (_,cs)=>cP cs.length sz (match σ.ins n (.box cs) with
   |some σ1=>k (σ1.put d (.one (.ptr n 0 0 0)))
   |none=>none)
  |_,_=>none
 |.build zs parts=>match FZ σ.ev zs parts with
  |some cs=>k (σ.put d (.agg cs))
  |none=>none
 |.fC ts parts=>match d with
  |some n=>Lf ts σ (parts.map σ.ev) fun es o σ1=>match σ1.ins n (.row true (Kw o) ts es) with
   |some σ2=>k (σ2.put d (.one (.sl n ts.length 0 es.length)))
   |none=>none
  |none=>none
 |.load ag sz x=>match σ.ev x with
  |.one p=>FN σ.h p sz fun cs=>k (σ.put d (zT ag cs))
  |_=>none
 |.nh ag sz x=>match σ.ev x with
  |.one p=>U7 σ p fun σ1=>FN σ1.h p sz fun cs=>k (σ1.put d (zT ag cs))
  |_=>none
 |.store sz x v=>match σ.ev x,(σ.ev v).cells? with
  |.one (.ptr n kk aA off),some (_,vs)=>cP vs.length sz (match σ.h n with
   |some (.box cs)=>cP kk 0 (fb (Nat.ble (off+sz) cs.length) (k (σ.dB n (.box (cu cs off vs)))))
   |some (.row gr m ts xs)=>cP aA ts.length ((cZ xs kk).aa fun e=>VF σ n gr m ts xs kk off e vs k)
   |none=>none)
  |.one (.cV n kk aA off s i),some (_,vs)=>cP vs.length sz (match σ.h n with
   |some (.row gr .live us xs)=>cP aA us.length ((cZ xs kk).aa fun e=>VE us e off s i vs fun e'=>k (σ.dB n (.row gr .live us (bF xs kk e'))))
   |_=>none)
  |_,_=>none
 |.gR x=>match σ.ev x with
  |.one (.ptr n kk sz off)=>fb (σ.h n).isSome (k (σ.put d (.one (.ptr n kk sz off))))
  |.one (.cB ts x off)=>k (σ.put d (.one (.cB ts x off)))
  |_=>none
 |.bin op x y=>MQ op (σ.ev x) (σ.ev y) fun t z=>k (σ.put d (.one (.v t z)))
 |.pj op x y=>MP op (σ.ev x) (σ.ev y) fun t z=>k (σ.put d (.one (.v t z)))
 |.un op x=>V3 op (σ.ev x) fun t z=>k (σ.put d (.one (.v t z)))
 |.conv kd x=>match σ.ev x with
  |.one (.v (.int _) n)=>k (σ.put d (.one (.v (.int kd) (x9 kd n))))
  |_=>none
 |.kc m ts by_ z l c=>match d,(σ.ev l).dj,(σ.ev c).dj with
  |some n,some a,some b=>(ra a b by_).aa fun len=>match σ.ins n (.row true m ts (eQ len z)) with
   |some σ1=>k (σ1.put d (.one (.sl n ts.length 0 len)))
   |none=>none
  |_,_,_=>none
 |.slice sz x lo hi=>
  match σ.ev x,Ku σ 0 lo with
  |.one (.sl n s l0 len),some l=>
   match Ku σ (aN len) hi with
   |some h=>cP s sz (fb (σ.h n).isSome ((ir l h len).aa fun p=>k (σ.put d (.one (.sl n s (aM l0 p.1) p.2)))))
   |none=>none
  |.one (.v (.list ts) xs),some l=>
   match Ku σ (aN (J (α:=Ty.DL ts) xs)) hi with
   |some h=>cP ts.length sz ((ir l h (J (α:=Ty.DL ts) xs)).aa fun p=>k (σ.put d (.one (.v (.list ts) (gE (α:=Ty.DL ts) xs p.1 p.2)))))
   |none=>none
  |_,_=>none
 |.tail sz x lo=>match d,σ.ev x,(σ.ev lo).dj with
  |some n,.one (.sl a s l0 len),some l=>match σ.h a with
   |some (.row true m ts xs)=>cP s ts.length (cP ts.length sz (cP l0 0 ((ai l0 len (J xs)).aa fun _=>(ir l (aN (J xs)) (J xs)).aa fun p=>
    match(σ.del a).ins n (.row true m ts (gE xs p.1 p.2)) with
    |some σ1=>k (σ1.put d (.one (.sl n sz 0 p.2)))
    |none=>none)))
   |_=>none
  |_,_,_=>none
 |.ar off x=>match σ.ev x with
  |.one (.ptr n kk sz o)=>fb (σ.h n).isSome (k (σ.put d (.one (.ptr n kk sz (o+off)))))
  |.one (.cB ts x o)=>k (σ.put d (.one (.cB ts x (o+off))))
  |_=>none
 |.cb sz x i=>match σ.ev x,(σ.ev i).dj with
  |.one (.sl n s lo len),some j=>cP s sz (fb (σ.h n).isSome ((eN j len).aa fun q=>k (σ.put d (.one (.ptr n (aM lo q) s 0)))))
  |.one (.v (.list ts) xs),some j=>cP ts.length sz ((eU (α:=Ty.DL ts) xs j).aa fun e=>k (σ.put d (.one (.cB ts e 0))))
  |.one (.bx n kk aA off s len),some j=>xt σ.h (.bx n kk aA off s len) fun t x=>match t,x with
   |.list ts,ys=>cP ts.length sz ((eN j (J (α:=Ty.DL ts) ys)).aa fun q=>k (σ.put d (.one (.cV n kk aA off sz q))))
   |_,_=>none
  |_,_=>none
 |.ext i x=>match σ.ev x with
  |.bq xs=>match xs[i]? with
   |some (ag,cs)=>k (σ.put d (zT ag cs))
   |none=>none
  |_=>none
 |.pz ag off sz x=>match σ.ev x with
  |.agg cs=>match sub cs off sz with
   |some l=>k (σ.put d (zT ag l))
   |none=>none
  |_=>none
 |.oW f bK x=>match σ.ev x with
  |.one (.sl n sz lo len)=>fb (σ.h n).isSome (k (σ.put d (.agg (tK bK (aN len) (.sl n sz lo len)))))
  |.one (.v (.list ts) xs)=>k (σ.put d (.agg (tK bK (aN (J (α:=Ty.DL ts) xs)) (.v (.list ts) xs))))
  |.one (.nil ts)=>k (σ.put d (.agg (tK bK (0:Int) (.nil ts))))
  |_=>none
 |.len x=>match σ.ev x with
  |.one (.sl n sz lo len)=>fb (σ.h n).isSome (k (σ.put d (.one (.v (.int .i64) (aN len)))))
  |.one (.v (.list ts) xs)=>k (σ.put d (.one (.v (.int .i64) (aN (J (α:=Ty.DL ts) xs)))))
  |.one (.nil ts)=>k (σ.put d (.one (.v (.int .i64) (0:Int))))
  |.one (.bx n kk aA off sz len)=>xt σ.h (.bx n kk aA off sz len) fun t x=>match t,x with
   |.list ts,ys=>k (σ.put d (.one (.v (.int .i64) (aN (J (α:=Ty.DL ts) ys)))))
   |_,_=>none
  |_=>none
 |.append fl ts by_ x y=>match d with
  |none=>none
  |some n=>TR σ ts (σ.ev x) fun xs m σ1=>TS fl σ1 ts m (σ.ev y) fun ys m2 σ2=>
   (iL (aM (J xs) (J ys)) by_).aa fun _=>match σ2.ins n (.row true m2 ts (dq xs ys)) with
    |some gW=>k (gW.put d (.one (.sl n ts.length 0 (aM (J xs) (J ys)))))
    |none=>none
 |.mm mx x y=>match σ.ev x,σ.ev y with
  |.one (.v (.int kd) a),.one (.v (.int kd') b)=>match mx with
   |true=>k (σ.put d (.one (.v (.int kd) (zl a b))))
   |false=>k (σ.put d (.one (.v (.int kd) (oO a b))))
  |_,_=>none
 |.call m f xs=>KT T m d f (xs.map σ.ev) σ k
 |.mP f xs=>U0 T d f (xs.map σ.ev) σ k
 |.copy x y=>match σ.ev x,σ.ev y with
  |.one (.sl n s lo len),.one c=>match σ.h n with
   |some (.row gr m ts xs)=>cP s 1 (cP ts.length 1 (fb (m.own&&Ty.fA ts) (xt σ.h c fun u ys=>match u,ys with
    |.list us,ys=>match Ty.cast (.list us) (.list ts) ys with
     |some zs=>(ID (α:=Ty.DL ts) xs lo len (List.take (α:=Ty.DL ts) len zs)).aa fun aq=>k ((σ.dB n (.row gr m ts aq)).put d (.one (.v (.int .i64) (aN (Nat.min (J (α:=Ty.DL ts) zs) len)))))
     |none=>none
    |_,_=>none)))
   |_=>none
  |_,_=>none
 |.kV t z x=>match σ.ev x with
  |.one (.sl n s lo len)=>match σ.h n with
   |some (.row gr m ts xs)=>cP s 1 (fb (m.own&&t.eR) (match q9 ts [⟨t,z⟩] with
    |some e=>(ID (α:=Ty.DL ts) xs lo len (eQ len e)).aa fun aq=>k ((σ.dB n (.row gr m ts aq)).put d (.bq []))
    |none=>none))
   |_=>none
  |_=>none
 |.pU f xs=>match zN (xs.map σ.ev) with
  |some cs=>k (σ.put d (.one (.fn f cs)))
  |none=>none
 |.mQ m x xs=>match σ.ev x with
  |.one (.fn f cA)=>KT T m d f (xs.map σ.ev++cA.map .one) σ k
  |_=>none
 |.gb m f xs=>U1 T m d f (xs.map σ.ev) σ k
 |.dZ f xs=>UZ T d f (xs.map σ.ev) σ k
 |.mR f xs=>U3 T d f (xs.map σ.ev) σ k
 |.lZ f xs=>U2 T d f (xs.map σ.ev) σ k
theorem DV {σ:af} {n:Nat} {b:SB} (h:σ.h n=some b):σ.er.h n=some b.er:=by simp[af.er,cY,h]
theorem Bb {σ:af} {n:Nat} (h:(σ.h n).isSome=true):(σ.er.h n).isSome=true:=by
 simp only[af.er,Yd,h]
theorem V9 (t:Ty) (x:t.D):(SV.one (.v t x)).er=.one (.c (t.er x)):=rfl
theorem XK {ts:List Ty} {xs aq ys:List (Ty.DL ts)} {lo len:Nat} (h:ID xs lo len ys=some aq):lo+len<=xs.length/\List.map (Ty.aI ts) aq=cu (List.map (Ty.aI ts) xs) lo (List.map (Ty.aI ts) ys):=by
 unfold ID at h
 split at h
 ·rename_i hc
  injection h with h
  subst h
  exact⟨hc,CR (Ty.aI ts) xs ys lo⟩
 ·cases h
theorem Ty.aeL {t u:Ty} {x:t.D} {y:u.D} (h:Ty.cast t u x=some y):t.er x=u.er y:=by
 unfold Ty.cast at h
 split at h
 ·rename_i he
  have:=Ty.beq_eq he
  subst this
  injection h with h
  rw[<-h]
 ·cases h
theorem acD {T:List aw} {d:Option Nat} {op:cI} {σ:af} {k:af->Option ρ} {r:ρ} (h:dX T d op σ k=some r):
  ∃σ1:af,exec (cQ T) d op.er σ.er=some σ1.er/\k σ1=some r:=by
 cases op with
 |mv x=>exact⟨_,by simp only[cI.er,exec,af.dw,af.dv],h⟩
 |pick c x y=>
  simp only[dX] at h
  split at h
  ·rename_i b hc
   have cC:σ.er.ev c.er=.one (.c (.bool b)):=by rw[af.dv,hc];rfl
   have ca:∀σ1:af,σ1.er=σ.er.put d (cond b (σ.ev x).er (σ.ev y).er)->exec (cQ T) d (cI.er (.pick c x y)) σ.er=some σ1.er:=by
    intro σ1 e
    simp only[cI.er,exec,cC,af.dv,e]
    cases b<;>rfl
   have gen:aG b (k (σ.put d (σ.ev x))) (k (σ.put d (σ.ev y)))=some r->∃σ1:af,exec (cQ T) d (cI.er (.pick c x y)) σ.er=some σ1.er/\k σ1=some r:=by
    intro h
    cases hb:(b:Bool) with
    |true=>rw[hb] at h;exact⟨_,ca _ (by rw[af.dw,hb];rfl),h⟩
    |false=>rw[hb] at h;exact⟨_,ca _ (by rw[af.dw,hb];rfl),h⟩
   split at h
   ·rename_i t x' u y' ex ey
    split at h
    ·rename_i z hz
     refine⟨_,ca _ ?_,h⟩
     rw[af.dw,ex,ey,V9,V9,V9,Ty.Xd hz]
     cases (b:Bool)<;>rfl
    ·exact gen h
   ·exact gen h
  ·cases h
 |alloc zs=>
  simp only[dX] at h
  split at h
  ·rename_i n
   split at h
   ·rename_i σ1 e
    have:=af.s6 e
    exact⟨_,by simp only[cI.er,exec];rw[show ao.box (zs.map SC.er)=(SB.box zs).er from rfl,this,af.dw];rfl,h⟩
   ·cases h
  ·cases h
 |box sz x=>
  simp only[dX] at h
  split at h
  ·rename_i n b cs hc
   have bu:=(bi h).1;replace h:=(bi h).2;subst bu
   split at h
   ·rename_i σ1 e
    have:=af.s6 e
    refine⟨_,?_,h⟩
    simp only[cI.er,exec,af.dv,SV.ma hc,List.length_map,if_true]
    rw[show ao.box (cs.map SC.er)=(SB.box cs).er from rfl,this,af.dw];rfl
   ·cases h
  ·cases h
 |build zs parts=>
  simp only[dX] at h
  split at h
  ·rename_i cs hc
   exact⟨_,by simp only[cI.er,exec,adk hc,af.dw];rfl,h⟩
  ·cases h
 |fC ts parts=>
  simp only[dX] at h
  split at h
  ·rename_i n
   obtain⟨es,o,σ1,h1,h2⟩:=adl h
   split at h2
   ·rename_i σ2 e
    have i:=af.s6 e
    refine⟨_,?_,h2⟩
    simp only[cI.er,exec,uh,h1,af.dw]
    have:(SB.row true (Kw o) ts es).er=ao.row true (Kw o) ts.length (List.map (Ty.aI ts) es):=rfl
    rw[amx,<-this,i,List.length_map]
    rfl
   ·cases h2
  ·cases h
 |load ag sz x=>
  simp only[dX] at h
  split at h
  ·rename_i p hp
   obtain⟨l,h1,h2⟩:=Vf h
   have bj:σ.er.ev x.er=.one p.er:=by rw[af.dv,hp];rfl
   have jW:loadAt σ.er.h p.er sz=some (l.map SC.er):=h1
   exact⟨_,by simp only[cI.er,exec,bj,jW,af.dw,CZ],h2⟩
  ·cases h
 |nh ag sz x=>
  simp only[dX] at h
  split at h
  ·rename_i p hp
   obtain⟨σ1,h0,h⟩:=aoN h
   obtain⟨l,h1,h2⟩:=Vf h
   have bj:σ.er.ev x.er=.one p.er:=by rw[af.dv,hp];rfl
   have jW:loadAt σ1.er.h p.er sz=some (l.map SC.er):=h1
   exact⟨_,by simp only[cI.er,exec,bj,h0,jW,af.dw,CZ],h2⟩
  ·cases h
 |store sz x v=>
  simp only[dX] at h
  split at h
  ·rename_i n kk aA off b vs hp hc
   have bu:=(bi h).1;replace h:=(bi h).2;subst bu
   have bj:σ.er.ev x.er=.one (.ptr n kk aA off):=by rw[af.dv,hp];rfl
   have cC:(σ.er.ev v.er).cells?=some (b,vs.map SC.er):=by rw[af.dv];exact SV.ma hc
   split at h
   ·rename_i cs hn
    have bu:=(bi h).1;replace h:=(bi h).2;subst bu
    have hb:=(cv h).1;replace h:=(cv h).2
    have jH:=Nat.le_of_ble_eq_true hb
    refine⟨_,?_,h⟩
    simp only[cI.er,exec,bj,cC,List.length_map,if_true,DV hn,SB.er,jH,and_self,af.pt,<-CR]
   ·rename_i gr m ts xs hn
    have bu:=(bi h).1;replace h:=(bi h).2;subst bu
    rw[eT] at h
    obtain⟨e,he,h⟩:=h
    replace he:xs[kk]? =some e:=he
    obtain⟨σ1,s1,s2⟩:=apm h
    refine⟨σ1,?_,s2⟩
    have nN:(List.map (Ty.aI ts) xs)[kk]? =some (Ty.aI ts e):=by rw[List.getElem?_map,he];rfl
    simp only[cI.er,exec,bj,cC,List.length_map,if_true,DV hn,SB.er,nN,s1]
   ·cases h
  ·rename_i n kk aA off s i b vs hp hc
   have bu:=(bi h).1;replace h:=(bi h).2;subst bu
   have bj:σ.er.ev x.er=.one (.cV n kk aA off s i):=by rw[af.dv,hp];rfl
   have cC:(σ.er.ev v.er).cells?=some (b,vs.map SC.er):=by rw[af.dv];exact SV.ma hc
   split at h
   ·rename_i gr us xs hn
    have bu:=(bi h).1;replace h:=(bi h).2;subst bu
    rw[eT] at h
    obtain⟨e,he,h⟩:=h
    replace he:xs[kk]? =some e:=he
    obtain⟨e',s1,s2⟩:=apl he h
    refine⟨_,?_,s2⟩
    simp only[cI.er,exec,bj,cC,List.length_map,if_true,DV hn,SB.er,s1,af.pt]
   ·cases h
  ·cases h
 |gR x=>
  simp only[dX] at h
  split at h
  ·rename_i n kk sz off hp
   have hb:=(cv h).1;replace h:=(cv h).2
   have bj:σ.er.ev x.er=.one (.ptr n kk sz off):=by rw[af.dv,hp];rfl
   exact⟨_,by simp only[cI.er,exec,bj,Bb hb,if_true,af.dw];rfl,h⟩
  ·rename_i ts y off hp
   have bj:σ.er.ev x.er=.one (.cB (Ty.aI ts y) off):=by rw[af.dv,hp];rfl
   exact⟨_,by simp only[cI.er,exec,bj,af.dw];rfl,h⟩
  ·cases h
 |bin op x y=>
  simp only[dX] at h
  obtain⟨t,z,h1,h2⟩:=aeD h
  exact⟨_,by simp only[cI.er,exec,af.dv,h1,af.dw];rfl,h2⟩
 |pj op x y=>
  simp only[dX] at h
  obtain⟨t,z,h1,h2⟩:=aeB h
  exact⟨_,by simp only[cI.er,exec,af.dv,h1,af.dw];rfl,h2⟩
 |un op x=>
  simp only[dX] at h
  obtain⟨t,z,h1,h2⟩:=apQ h
  exact⟨_,by simp only[cI.er,exec,af.dv,h1,af.dw];rfl,h2⟩
 |conv kd x=>
  simp only[dX] at h
  split at h
  ·rename_i k' n hp
   have bj:σ.er.ev x.er=.one (.c (.int k' n)):=by rw[af.dv,hp];rfl
   exact⟨_,by simp only[cI.er,exec,bj,af.dw];rfl,h⟩
  ·cases h
 |kc m ts by_ z l c=>
  simp only[dX] at h
  split at h
  ·rename_i n a b ha hb
   rw[eT] at h
   obtain⟨len,hm,h⟩:=h
   unfold ra at hm
   split at hm
   ·rename_i cM
    injection hm with hm
    subst hm
    split at h
    ·rename_i σ1 e
     have i:=af.s6 e
     have uq:(σ.er.ev l.er).dj=some a:=by rw[af.dv];exact SV.y3 ha
     have aY:(σ.er.ev c.er).dj=some b:=by rw[af.dv];exact SV.y3 hb
     refine⟨_,?_,h⟩
     have hz:(Ty.aI ts z).length=ts.length:=Ty.DT ts z
     have eW:(SB.row true m ts (eQ a.toNat z)).er=ao.row true m ts.length (List.replicate a.toNat (Ty.aI ts z)):=by simp[SB.er,eQ,List.map_replicate]
     have OU:a<=b/\0<=a/\b.toNat*by_<=dK/\(Ty.aI ts z).length=ts.length:=⟨cM.1,cM.2.1,cM.2.2,hz⟩
     simp only[cI.er,exec,uq,aY,if_pos OU,<-eW,i,af.dw]
     rfl
    ·cases h
   ·cases hm
  ·cases h
 |slice sz x lo hi=>
  simp only[dX] at h
  split at h
  ·rename_i n s l0 len l hp el
   have bj:σ.er.ev x.er=.one (.sl n s l0 len):=by rw[af.dv,hp];rfl
   split at h
   ·rename_i hh eh
    have bu:=(bi h).1;replace h:=(bi h).2;subst bu
    have hb:=(cv h).1;replace h:=(cv h).2
    rw[eT] at h
    obtain⟨p,hs,h⟩:=h
    unfold ir at hs
    split at hs
    ·rename_i cM
     injection hs with hs
     subst hs
     refine⟨_,?_,h⟩
     have uw:s=s/\0<=l/\l<=hh/\hh<=len/\(σ.er.h n).isSome=true:=⟨rfl,cM.1,cM.2.1,cM.2.2,Bb hb⟩
     have e1:=Kv el
     have e2:=Kv eh
     rw[af.dw]
     cases lo with
     |none=>
      simp only[Option.map_none,Option.some.injEq] at e1
      subst e1
      cases hi with
      |none=>
       simp only[Option.map_none,Option.some.injEq] at e2
       subst e2
       simp only[cI.er,exec,bj,Option.map_none]
       exact if_pos ⟨trivial,uw.2⟩
      |some q=>
       simp only[Option.map_some] at e2
       simp only[cI.er,exec,bj,Option.map_none,Option.map_some,e2]
       exact if_pos ⟨trivial,uw.2⟩
     |some q0=>
      simp only[Option.map_some] at e1
      cases hi with
      |none=>
       simp only[Option.map_none,Option.some.injEq] at e2
       subst e2
       simp only[cI.er,exec,bj,Option.map_none,Option.map_some,e1]
       exact if_pos ⟨trivial,uw.2⟩
      |some q=>
       simp only[Option.map_some] at e2
       simp only[cI.er,exec,bj,Option.map_some,e1,e2]
       exact if_pos ⟨trivial,uw.2⟩
    ·cases hs
   ·cases h
  ·rename_i ts xs l hp el
   have bj:σ.er.ev x.er=.one (.c (.list ts.length (List.map (Ty.aI ts) xs))):=by rw[af.dv,hp];rfl
   split at h
   ·rename_i hh eh
    have bu:=(bi h).1;replace h:=(bi h).2;subst bu
    rw[eT] at h
    obtain⟨p,hs,h⟩:=h
    unfold ir at hs
    split at hs
    ·rename_i cM
     injection hs with hs
     subst hs
     refine⟨_,?_,h⟩
     have uw:ts.length=ts.length/\0<=l/\l<=hh/\hh<=(List.map (Ty.aI ts) xs).length:=⟨rfl,cM.1,cM.2.1,Int.le_trans cM.2.2 (Int.le_of_eq (congrArg _ (List.length_map (Ty.aI ts)).symm))⟩
     have e1:=Kv el
     have e2:(match hi.map cE.er with|none=>some (((List.map (Ty.aI ts) xs).length:Nat):Int)|some q=>(σ.er.ev q).dj)=some hh:=by rw[show(List.map (Ty.aI ts) xs).length=List.length (α:=Ty.DL ts) xs from List.length_map (Ty.aI ts)];exact Kv eh
     rw[af.dw]
     have Jz:List.map (Ty.aI ts) (List.take (hh - l).toNat (List.drop (α:=Ty.DL ts) l.toNat xs))=((List.map (Ty.aI ts) xs).drop l.toNat).take (hh - l).toNat:=by
      rw[List.map_take]
      exact congrArg (List.take (hh - l).toNat) List.map_drop
     refine Eq.trans ?_ (congrArg (fun q=>some (σ.er.put d (aj.one (.c (.list ts.length q))))) Jz.symm)
     cases lo with
     |none=>
      simp only[Option.map_none,Option.some.injEq] at e1
      subst e1
      cases hi with
      |none=>
       simp only[Option.map_none,Option.some.injEq] at e2
       subst e2
       simp only[cI.er,exec,bj,Option.map_none]
       exact if_pos ⟨trivial,uw.2⟩
      |some q=>
       simp only[Option.map_some] at e2
       simp only[cI.er,exec,bj,Option.map_none,Option.map_some,e2]
       exact if_pos ⟨trivial,uw.2⟩
     |some q0=>
      simp only[Option.map_some] at e1
      cases hi with
      |none=>
       simp only[Option.map_none,Option.some.injEq] at e2
       subst e2
       simp only[cI.er,exec,bj,Option.map_none,Option.map_some,e1]
       exact if_pos ⟨trivial,uw.2⟩
      |some q=>
       simp only[Option.map_some] at e2
       simp only[cI.er,exec,bj,Option.map_some,e1,e2]
       exact if_pos ⟨trivial,uw.2⟩
    ·cases hs
   ·cases h
  ·cases h
 |tail sz x lo=>
  simp only[dX] at h
  split at h
  ·rename_i n a0 s l0 len l hp hl
   have bj:σ.er.ev x.er=.one (.sl a0 s l0 len):=by rw[af.dv,hp];rfl
   have dE:(σ.er.ev lo.er).dj=some l:=by rw[af.dv];exact SV.y3 hl
   split at h
   ·rename_i m ts xs hn
    have bu:=(bi h).1;replace h:=(bi h).2;subst bu
    have bu:=(bi h).1;replace h:=(bi h).2;subst bu
    have bu:=(bi h).1;replace h:=(bi h).2;subst bu
    rw[eT] at h
    obtain⟨_,hf,h⟩:=h
    obtain⟨_,hlen⟩:=OD hf
    rw[eT] at h
    obtain⟨p,hs,h⟩:=h
    unfold ir at hs
    split at hs
    ·rename_i cM
     injection hs with hs
     subst hs
     simp only at h
     split at h
     ·rename_i σ1 e1
      refine⟨_,?_,h⟩
      have ahW:len=xs.length:=hlen
      have Zn:0<=l/\l<=(xs.length:Int):=⟨cM.1,cM.2.1⟩
      have bk:σ.er.h a0=some (.row true m ts.length (List.map (Ty.aI ts) xs)):=by simp[af.er,cY,hn,SB.er]
      have i1:=af.s6 e1
      have e2:(aN (J xs) - l).toNat=xs.length - l.toNat:=by simp only[aN,J];omega
      have e3:gE xs l.toNat (aN (J xs) - l).toNat=xs.drop l.toNat:=by rw[e2];unfold gE;rw[List.take_of_length_le (by simp)]
      rw[e3] at i1
      simp only[SB.er,af.IW,List.map_drop] at i1
      simp only[cI.er,exec,bj,dE,bk,List.length_map,ahW,Zn.1,Zn.2,and_self,if_true,i1,af.dw,SV.er,SC.er,e2]
     ·cases h
    ·cases hs
   ·cases h
  ·cases h
 |ar off x=>
  simp only[dX] at h
  split at h
  ·rename_i n kk sz o hp
   have hb:=(cv h).1;replace h:=(cv h).2
   have bj:σ.er.ev x.er=.one (.ptr n kk sz o):=by rw[af.dv,hp];rfl
   exact⟨_,by simp only[cI.er,exec,bj,Bb hb,if_true,af.dw];rfl,h⟩
  ·rename_i ts y o hp
   have bj:σ.er.ev x.er=.one (.cB (Ty.aI ts y) o):=by rw[af.dv,hp];rfl
   exact⟨_,by simp only[cI.er,exec,bj,af.dw];rfl,h⟩
  ·cases h
 |cb sz x i=>
  simp only[dX] at h
  split at h
  ·rename_i n s lo len j hp hi
   have bu:=(bi h).1;replace h:=(bi h).2;subst bu
   have hb:=(cv h).1;replace h:=(cv h).2
   rw[eT] at h
   obtain⟨q,hq,h⟩:=h
   unfold eN at hq
   split at hq
   ·rename_i cM
    injection hq with hq
    subst hq
    have bj:σ.er.ev x.er=.one (.sl n s lo len):=by rw[af.dv,hp];rfl
    have hi':(σ.er.ev i.er).dj=some j:=by rw[af.dv];exact SV.y3 hi
    refine⟨_,?_,h⟩
    have OU:s=s/\0<=j/\j<len/\(σ.er.h n).isSome=true:=⟨rfl,cM.1,cM.2,Bb hb⟩
    simp only[cI.er,exec,bj,hi',af.dw]
    exact if_pos ⟨trivial,OU.2⟩
   ·cases hq
  ·rename_i ts xs j hp hi
   have bu:=(bi h).1;replace h:=(bi h).2;subst bu
   rw[eT] at h
   obtain⟨e,he,h⟩:=h
   unfold eU at he
   split at he
   ·rename_i cM
    have bj:σ.er.ev x.er=.one (.c (.list ts.length (List.map (Ty.aI ts) xs))):=by rw[af.dv,hp];rfl
    have hi':(σ.er.ev i.er).dj=some j:=by rw[af.dv];exact SV.y3 hi
    have nN:(List.map (Ty.aI ts) xs)[j.toNat]? =some (Ty.aI ts e):=aj1 (Ty.aI ts) he
    refine⟨_,?_,h⟩
    simp only[cI.er,exec,bj,hi',cM,and_self,if_true,nN,af.dw]
    rfl
   ·cases he
  ·rename_i n kk aA off s len j hp hi
   obtain⟨t,y,h1,h2⟩:=CX h
   have bj:σ.er.ev x.er=.one (.bx n kk aA off s len):=by rw[af.dv,hp];rfl
   have hi':(σ.er.ev i.er).dj=some j:=by rw[af.dv];exact SV.y3 hi
   have jW:cq σ.er.h (.bx n kk aA off s len)=some (t.er y):=h1
   split at h2
   ·rename_i ts ys
    have bu:=(bi h2).1;replace h2:=(bi h2).2;subst bu
    rw[eT] at h2
    obtain⟨q,hq,h2⟩:=h2
    unfold eN at hq
    split at hq
    ·rename_i cM
     injection hq with hq
     subst hq
     refine⟨_,?_,h2⟩
     simp only[cI.er,exec,bj,hi',jW,Ty.er,af.dw]
     exact if_pos ⟨trivial,cM.1,by rw[show(List.map (Ty.aI ts) ys).length=J (α:=Ty.DL ts) ys from List.length_map (Ty.aI ts)];exact cM.2⟩
    ·cases hq
   ·cases h2
  ·cases h
 |ext i x=>
  simp only[dX] at h
  split at h
  ·rename_i xs hp
   split at h
   ·rename_i ag cs hg
    have bj:σ.er.ev x.er=.bq (xs.map fun x=>(x.1,x.2.map SC.er)):=by rw[af.dv,hp];rfl
    refine⟨_,?_,h⟩
    simp only[cI.er,exec,bj,List.getElem?_map,hg,Option.map_some,af.dw,CZ]
   ·cases h
  ·cases h
 |pz ag off sz x=>
  simp only[dX] at h
  split at h
  ·rename_i cs hp
   have bj:σ.er.ev x.er=.agg (cs.map SC.er):=by rw[af.dv,hp];rfl
   split at h
   ·rename_i l hl
    exact⟨_,by simp only[cI.er,exec,bj,tL,hl,Option.map_some,af.dw,CZ],h⟩
   ·cases h
  ·cases h
 |oW f bK x=>
  simp only[dX] at h
  split at h
  ·rename_i n sz lo len hp
   have hb:=(cv h).1;replace h:=(cv h).2
   have bj:σ.er.ev x.er=.one (.sl n sz lo len):=by rw[af.dv,hp];rfl
   refine⟨_,?_,h⟩
   simp only[cI.er,exec,bj,Bb hb,if_true,af.dw]
   rw[show(SV.agg (tK bK (aN len) (.sl n sz lo len))).er=.agg ((tK bK (aN len) (.sl n sz lo len)).map SC.er) from rfl,VC]
   rfl
  ·rename_i ts xs hp
   have bj:σ.er.ev x.er=.one (.c (.list ts.length (List.map (α:=Ty.DL ts) (Ty.aI ts) xs))):=by rw[af.dv,hp];rfl
   refine⟨_,?_,h⟩
   simp only[cI.er,exec,bj,af.dw]
   rw[show(SV.agg (tK bK (aN (J (α:=Ty.DL ts) xs)) (.v (.list ts) xs))).er=.agg ((tK bK (aN (J (α:=Ty.DL ts) xs)) (.v (.list ts) xs)).map SC.er) from rfl,VC]
   congr 3
   congr 1
   exact congrArg Int.ofNat (List.length_map (as:=(xs:List (Ty.DL ts))) (Ty.aI ts))
  ·rename_i ts hp
   have bj:σ.er.ev x.er=.one (.nil ts.length):=by rw[af.dv,hp];rfl
   refine⟨_,?_,h⟩
   simp only[cI.er,exec,bj,af.dw]
   rw[show(SV.agg (tK bK (0:Int) (.nil ts))).er=.agg ((tK bK (0:Int) (.nil ts)).map SC.er) from rfl,VC]
   rfl
  ·cases h
 |len x=>
  simp only[dX] at h
  split at h
  ·rename_i n sz lo len hp
   have hb:=(cv h).1;replace h:=(cv h).2
   have bj:σ.er.ev x.er=.one (.sl n sz lo len):=by rw[af.dv,hp];rfl
   exact⟨_,by simp only[cI.er,exec,bj,Bb hb,if_true,af.dw];rfl,h⟩
  ·rename_i ts xs hp
   have bj:σ.er.ev x.er=.one (.c (.list ts.length (List.map (Ty.aI ts) xs))):=by rw[af.dv,hp];rfl
   exact⟨_,by simp only[cI.er,exec,bj,af.dw];exact congrArg (fun q:Nat=>some (σ.er.put d (aj.one (.c (.int .i64 (q:Int)))))) (List.length_map (Ty.aI ts)),h⟩
  ·rename_i ts hp
   have bj:σ.er.ev x.er=.one (.nil ts.length):=by rw[af.dv,hp];rfl
   exact⟨_,by simp only[cI.er,exec,bj,af.dw];rfl,h⟩
  ·rename_i n kk aA off sz len hp
   obtain⟨t,y,h1,h2⟩:=CX h
   have bj:σ.er.ev x.er=.one (.bx n kk aA off sz len):=by rw[af.dv,hp];rfl
   have jW:cq σ.er.h (.bx n kk aA off sz len)=some (t.er y):=h1
   split at h2
   ·rename_i ts ys
    exact⟨_,by simp only[cI.er,exec,bj,jW,Ty.er,af.dw];exact congrArg (fun q:Nat=>some (σ.er.put d (aj.one (.c (.int .i64 (q:Int)))))) (List.length_map (Ty.aI ts)),h2⟩
   ·cases h2
  ·cases h
 |append fl ts by_ x y=>
  simp only[dX] at h
  split at h
  ·cases h
  ·rename_i n
   obtain⟨xs,m,σ1,h1,h2⟩:=aot h
   obtain⟨ys,m2,σ2,h3,h4⟩:=aou h2
   rw[eT] at h4
   obtain⟨_,hf,h4⟩:=h4
   unfold iL at hf
   split at hf
   ·rename_i hb
    split at h4
    ·rename_i gW e
     have i:=af.s6 e
     refine⟨_,?_,h4⟩
     replace hb:(xs.length+ys.length)*by_<=dK:=hb
     have eW:(SB.row true m2 ts (dq xs ys)).er=ao.row true m2 ts.length (List.map (Ty.aI ts) xs++List.map (Ty.aI ts) ys):=by simp[SB.er,dq]
     simp only[cI.er,exec,af.dv,h1,h3,List.length_map,hb,if_true,<-eW,i,af.dw]
     rfl
    ·cases h4
   ·cases hf
 |mm mx x y=>
  simp only[dX] at h
  split at h
  ·rename_i kd a kd' b ex ey
   have Yg:σ.er.ev x.er=.one (.c (.int kd a)):=by rw[af.dv,ex];rfl
   have Yv:σ.er.ev y.er=.one (.c (.int kd' b)):=by rw[af.dv,ey];rfl
   split at h
   ·refine⟨_,?_,h⟩
    rw[af.dw]
    simp only[cI.er,exec,Yg,Yv,if_true]
    by_cases eV:LT.lt (α:=Int) a b
    ·exact(if_pos eV).trans (congrArg (fun q:Int=>some (σ.er.put d (aj.one (.c (.int kd q))))) (if_pos eV:zl a b=b).symm)
    ·exact(if_neg eV).trans (congrArg (fun q:Int=>some (σ.er.put d (aj.one (.c (.int kd q))))) (if_neg eV:zl a b=a).symm)
   ·refine⟨_,?_,h⟩
    rw[af.dw]
    simp only[cI.er,exec,Yg,Yv,Bool.false_eq_true,if_false]
    by_cases eV:LT.lt (α:=Int) b a
    ·exact(if_pos eV).trans (congrArg (fun q:Int=>some (σ.er.put d (aj.one (.c (.int kd q))))) (if_pos eV:oO a b=b).symm)
    ·exact(if_neg eV).trans (congrArg (fun q:Int=>some (σ.er.put d (aj.one (.c (.int kd q))))) (if_neg eV:oO a b=a).symm)
  ·cases h
 |call m f xs=>
  simp only[dX] at h
  obtain⟨σ1,h1,h2⟩:=acz h
  exact⟨σ1,by simp only[cI.er,exec,uh];exact h1,h2⟩
 |copy x y=>
  simp only[dX] at h
  split at h
  ·rename_i n s lo len c hp hq
   split at h
   ·rename_i gr m ts xs hn
    have bu:=(bi h).1;replace h:=(bi h).2;subst bu
    have ht:=(bi h).1;replace h:=(bi h).2
    have hb:=(cv h).1;replace h:=(cv h).2
    simp only[Bool.and_eq_true] at hb
    obtain⟨u,ys,h1,h2⟩:=CX h
    split at h2
    ·rename_i us ys
     split at h2
     ·rename_i zs hz
      rw[eT] at h2
      obtain⟨aq,hc,h2⟩:=h2
      refine⟨_,?_,h2⟩
      have bj:σ.er.ev x.er=.one (.sl n 1 lo len):=by rw[af.dv,hp];rfl
      have eD:σ.er.ev y.er=.one c.er:=by rw[af.dv,hq];rfl
      have sk:Ty.er (.list us) ys=Ty.er (.list ts) zs:=by
       have:=Ty.aeL hz
       exact this
      have jW:cq σ.er.h c.er=some (.list ts.length (List.map (Ty.aI ts) zs)):=by
       have:cq σ.er.h c.er=some (Ty.er (.list us) ys):=h1
       rw[this,sk];rfl
      obtain⟨c1,c2⟩:=XK hc
      have ik:m≠ .aF:=by rintro rfl;exact absurd hb.1 (by simp[Mode.own])
      simp only[cI.er,exec,bj,eD,DV hn,SB.er,jW]
      rw[if_pos ⟨trivial,trivial,ht,ht,ik,zF ts xs hb.2,zF ts zs hb.2,by rw[List.length_map];exact c1⟩]
      rw[af.dw,af.pt]
      simp only[SB.er,c2,ht]
      rw[show List.map (Ty.aI ts) (List.take (α:=Ty.DL ts) len zs)=List.take len (List.map (Ty.aI ts) zs) from List.map_take,show(List.map (Ty.aI ts) zs).length=J (α:=Ty.DL ts) zs from List.length_map _]
      rfl
     ·cases h2
    ·cases h2
   ·cases h
  ·cases h
 |kV t z x=>
  simp only[dX] at h
  split at h
  ·rename_i n s lo len hp
   split at h
   ·rename_i gr m ts xs hn
    have bu:=(bi h).1;replace h:=(bi h).2;subst bu
    have hb:=(cv h).1;replace h:=(cv h).2
    simp only[Bool.and_eq_true] at hb
    split at h
    ·rename_i e he
     rw[eT] at h
     obtain⟨aq,hc,h⟩:=h
     refine⟨_,?_,h⟩
     have bj:σ.er.ev x.er=.one (.sl n 1 lo len):=by rw[af.dv,hp];rfl
     have mr:Ty.aI ts e=[t.er z]:=wU he
     have hlen:ts.length=1:=by
      have:=congrArg List.length mr
      rw[Ty.DT] at this
      exact this
     have tm:Ty.fA ts=true:=by
      have:=Ty.KQ ts e
      rw[mr] at this
      simp only[Am.fA,List.all_cons,List.all_nil,Bool.and_true,Ty.xg,hb.2] at this
      exact this.symm
     obtain⟨c1,c2⟩:=XK hc
     have ik:m≠ .aF:=by rintro rfl;exact absurd hb.1 (by simp[Mode.own])
     simp only[cI.er,exec,bj,DV hn,SB.er]
     rw[if_pos ⟨trivial,hlen,by rw[Ty.xg];exact hb.2,ik,zF ts xs tm,by rw[List.length_map];exact c1⟩]
     rw[af.dw,af.pt]
     simp only[SB.er,c2,hlen,eQ,List.map_replicate,mr]
     rfl
    ·cases h
   ·cases h
  ·cases h
 |mP f xs=>
  simp only[dX] at h
  obtain⟨v,h1,h2⟩:=aoE h
  refine⟨_,?_,h2⟩
  simp only[cI.er,exec,uh]
  rw[h1]
  simp only[af.dw]
 |pU f xs=>
  simp only[dX] at h
  split at h
  ·rename_i cs hc
   obtain⟨h1,h2⟩:=acS hc
   refine⟨_,?_,h⟩
   simp only[cI.er,exec,uh]
   split
   ·rename_i cs' e
    have e2:some cs'=some (cs.map SC.er):=e.symm.trans h1
    injection e2 with e2
    subst e2
    rw[if_pos h2,af.dw]
    simp only[SV.er,SC.er,SC.DW]
   ·rename_i e
    have e2:none=some (cs.map SC.er):=e.symm.trans h1
    cases e2
  ·cases h
 |gb m f xs=>
  simp only[dX] at h
  obtain⟨σ1,h1,h2⟩:=aoF h
  exact⟨σ1,by simp only[cI.er,exec,uh];exact h1,h2⟩
 |dZ f xs=>
  simp only[dX] at h
  obtain⟨σ1,h1,h2⟩:=aoD h
  exact⟨σ1,by simp only[cI.er,exec,uh];exact h1,h2⟩
 |lZ f xs=>
  simp only[dX] at h
  obtain⟨v,h1,h2⟩:=aoG h
  exact⟨σ.put d v,by simp only[cI.er,exec,uh,h1,af.dw],h2⟩
 |mR f xs=>
  simp only[dX] at h
  obtain⟨v,h1,h2⟩:=aoH h
  exact⟨σ.put d v,by simp only[cI.er,exec,uh,h1,af.dw],h2⟩
 |mQ m x xs=>
  simp only[dX] at h
  split at h
  ·rename_i f cA hp
   have bj:σ.er.ev x.er=.one (.fn f (cA.map SC.er)):=by rw[af.dv,hp];simp only[SV.er,SC.er,SC.DW]
   obtain⟨σ1,h1,h2⟩:=acz h
   refine⟨σ1,?_,h2⟩
   simp only[cI.er,exec,bj,uh]
   rw[List.map_append] at h1
   simp only[List.map_map] at h1⊢
   exact h1
  ·cases h
structure fm where
 dst:Option Nat
 op:cI
 guard:Option (Nat×Bool)
def fm.er (o:fm):bV:=⟨o.dst,o.op.er,o.guard⟩
def af.lit (σ:af) (n:Nat) (b:Bool):af:={σ with env:=av σ.env n (.one (.v .bool b))}
theorem af.DU {σ:af} {n:Nat} {b:Bool} (h:σ.env n=.one (.v .bool b)):(σ.lit n b).er=σ.er:=by
 have:av σ.env n (.one (.v .bool b))=σ.env:=by
  funext s
  simp only[iY]
  split
  ·rename_i hs;subst hs;exact h.symm
  ·rfl
 simp only[af.lit,this]
def ru (T:List aw):List fm->af->(af->Option ρ)->Option ρ
 |[],σ,k=>k σ
 |o::os,σ,k=>match o.guard with
  |none=>dX T o.dst o.op σ fun σ1=>ru T os σ1 k
  |some (s,kP)=>match σ.env s with
   |.one (.v .bool b)=>aG b
    (match kP with
     |true=>dX T o.dst o.op (σ.lit s true) fun σ1=>ru T os σ1 k
     |false=>ru T os ((σ.lit s true).put o.dst (.bq [])) k)
    (match kP with
     |true=>ru T os ((σ.lit s false).put o.dst (.bq [])) k
     |false=>dX T o.dst o.op (σ.lit s false) fun σ1=>ru T os σ1 k)
   |.bq []=>ru T os (σ.put o.dst (.bq [])) k
   |_=>none
theorem U5 {T:List aw}:∀{os:List fm} {σ:af} {k:af->Option ρ} {r:ρ},ru T os σ k=some r->
  ∃σ1:af,kv (cQ T) (os.map fm.er) σ.er=some σ1.er/\k σ1=some r
 |[],σ,k,r,h=>⟨σ,rfl,h⟩
 |o::os,σ,k,r,h=>by
  obtain⟨d,op,g⟩:=o
  have run:∀jT:af,jT.er=σ.er->d9 (cQ T) (fm.er ⟨d,op,g⟩) σ.er=exec (cQ T) d op.er σ.er->dX T d op jT (fun σ1=>ru T os σ1 k)=some r->
    ∃σ1:af,kv (cQ T) ((⟨d,op,g⟩::os).map fm.er) σ.er=some σ1.er/\k σ1=some r:=by
   intro jT h0 he hs
   obtain⟨σ1,h1,h2⟩:=acD hs
   obtain⟨σ2,h3,h4⟩:=U5 h2
   rw[h0] at h1
   exact⟨σ2,by simp only[List.map_cons,kv,he,h1,h3],h4⟩
  have zK:∀jT:af,jT.er=σ.er->d9 (cQ T) (fm.er ⟨d,op,g⟩) σ.er=some (σ.er.put d (.bq []))->ru T os (jT.put d (.bq [])) k=some r->
    ∃σ1:af,kv (cQ T) ((⟨d,op,g⟩::os).map fm.er) σ.er=some σ1.er/\k σ1=some r:=by
   intro jT h0 he hs
   obtain⟨σ2,h3,h4⟩:=U5 hs
   rw[af.dw,h0] at h3
   exact⟨σ2,by simp only[List.map_cons,kv,he];exact h3,h4⟩
  cases g with
  |none=>exact run σ rfl rfl h
  |some g=>
   obtain⟨s,kP⟩:=g
   simp only[ru] at h
   split at h
   ·rename_i b hs
    have j3:σ.er.env s=.one (.c (.bool b)):=by show(σ.env s).er=_;rw[hs];rfl
    cases hb:(b:Bool) with
    |true=>
     have h0:(σ.lit s true).er=σ.er:=af.DU (by rw[hs,hb])
     rw[hb] at h
     simp only[Iz] at h
     cases kP with
     |true=>exact run _ h0 (by simp[d9,fm.er,j3,hb]) h
     |false=>exact zK _ h0 (by simp[d9,fm.er,j3,hb]) h
    |false=>
     have h0:(σ.lit s false).er=σ.er:=af.DU (by rw[hs,hb])
     rw[hb] at h
     simp only[DF] at h
     cases kP with
     |true=>exact zK _ h0 (by simp[d9,fm.er,j3,hb]) h
     |false=>exact run _ h0 (by simp[d9,fm.er,j3,hb]) h
   ·rename_i hs
    have j3:σ.er.env s=.bq []:=by show(σ.env s).er=_;rw[hs];rfl
    exact zK σ rfl (by simp[d9,fm.er,j3]) h
   ·cases h
def rv (T:List aw) (ps:List (Nat×Nat)):List fm->List (Option FP)->af->(af->Option ρ)->Option ρ
 |[],cU,σ,k=>fb (w5 ps cU) (k σ)
 |o::os,cU,σ,k=>match o.guard with
  |none=>dX T o.dst o.op σ fun σ1=>rv T ps os (cU++[o.er.fp σ.er]) σ1 k
  |some (s,kP)=>match σ.env s with
   |.one (.v .bool b)=>aG b
    (match kP with
     |true=>dX T o.dst o.op (σ.lit s true) fun σ1=>rv T ps os (cU++[o.er.fp (σ.lit s true).er]) σ1 k
     |false=>rv T ps os (cU++[o.er.fp (σ.lit s true).er]) ((σ.lit s true).put o.dst (.bq [])) k)
    (match kP with
     |true=>rv T ps os (cU++[o.er.fp (σ.lit s false).er]) ((σ.lit s false).put o.dst (.bq [])) k
     |false=>dX T o.dst o.op (σ.lit s false) fun σ1=>rv T ps os (cU++[o.er.fp (σ.lit s false).er]) σ1 k)
   |.bq []=>rv T ps os (cU++[o.er.fp σ.er]) (σ.put o.dst (.bq [])) k
   |_=>none
theorem U4 {T:List aw} {ps:List (Nat×Nat)}:∀{os:List fm} {cU:List (Option FP)} {σ:af} {k:af->Option ρ} {r:ρ},rv T ps os cU σ k=some r->
  ∃(σ1:af) (fs:List (Option FP)),mU (cQ T) (os.map fm.er) cU σ.er=some (fs,σ1.er)/\w5 ps fs=true/\k σ1=some r
 |[],cU,σ,k,r,h=>⟨σ,cU,rfl,(cv h).1,(cv h).2⟩
 |o::os,cU,σ,k,r,h=>by
  obtain⟨d,op,g⟩:=o
  have run:∀jT:af,jT.er=σ.er->d9 (cQ T) (fm.er ⟨d,op,g⟩) σ.er=exec (cQ T) d op.er σ.er->dX T d op jT (fun σ1=>rv T ps os (cU++[(fm.er ⟨d,op,g⟩).fp jT.er]) σ1 k)=some r->
    ∃(σ1:af) (fs:List (Option FP)),mU (cQ T) ((⟨d,op,g⟩::os).map fm.er) cU σ.er=some (fs,σ1.er)/\w5 ps fs=true/\k σ1=some r:=by
   intro jT h0 he hs
   obtain⟨σ1,h1,h2⟩:=acD hs
   obtain⟨σ2,fs,h3,h4⟩:=U4 h2
   rw[h0] at h1 h3
   exact⟨σ2,fs,by simp only[List.map_cons,mU,he,h1,h3],h4⟩
  have zK:∀jT:af,jT.er=σ.er->d9 (cQ T) (fm.er ⟨d,op,g⟩) σ.er=some (σ.er.put d (.bq []))->rv T ps os (cU++[(fm.er ⟨d,op,g⟩).fp jT.er]) (jT.put d (.bq [])) k=some r->
    ∃(σ1:af) (fs:List (Option FP)),mU (cQ T) ((⟨d,op,g⟩::os).map fm.er) cU σ.er=some (fs,σ1.er)/\w5 ps fs=true/\k σ1=some r:=by
   intro jT h0 he hs
   obtain⟨σ2,fs,h3,h4⟩:=U4 hs
   rw[af.dw,h0] at h3
   exact⟨σ2,fs,by simp only[List.map_cons,mU,he];exact h3,h4⟩
  cases g with
  |none=>exact run σ rfl rfl h
  |some g=>
   obtain⟨s,kP⟩:=g
   simp only[rv] at h
   split at h
   ·rename_i b hs
    have j3:σ.er.env s=.one (.c (.bool b)):=by show(σ.env s).er=_;rw[hs];rfl
    cases hb:(b:Bool) with
    |true=>
     have h0:(σ.lit s true).er=σ.er:=af.DU (by rw[hs,hb])
     rw[hb] at h
     simp only[Iz] at h
     cases kP with
     |true=>exact run _ h0 (by simp[d9,fm.er,j3,hb]) h
     |false=>exact zK _ h0 (by simp[d9,fm.er,j3,hb]) h
    |false=>
     have h0:(σ.lit s false).er=σ.er:=af.DU (by rw[hs,hb])
     rw[hb] at h
     simp only[DF] at h
     cases kP with
     |true=>exact zK _ h0 (by simp[d9,fm.er,j3,hb]) h
     |false=>exact run _ h0 (by simp[d9,fm.er,j3,hb]) h
   ·rename_i hs
    have j3:σ.er.env s=.bq []:=by show(σ.env s).er=_;rw[hs];rfl
    exact zK σ rfl (by simp[d9,fm.er,j3]) h
   ·cases h
end
end Go.Am
