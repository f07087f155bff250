/- S4: operations of the typed evaluator. No condition. -/
import Derived.Test.YtifmggmhdcdgbaaS3
set_option linter.unusedVariables false
namespace Go.Am
theorem agy {α β:Type} (f:α->β) {l:List α} {i:Nat} {e:α} (h:l[i]? =some e):(l.map f)[i]? =some (f e):=by rw[List.getElem?_map,h];rfl
section
variable {ρ:Type}
def Ib:Bool->Mode
 |true=>.ae
 |false=>.aA
theorem ail (o:Bool):(if o=true then Mode.ae else .aA)=Ib o:=by cases o<;>rfl
def H9 (σ:ah) (d:Int) (o:Option cB):Option Int:=
 match o with
 |none=>some d
 |some q=>(σ.ev q).cX
theorem Ia {σ:ah} {d l:Int} {o:Option cB} (h:H9 σ d o=some l):(match o.map cB.er with|none=>some d|some q=>(σ.er.ev q).cX)=some l:=by
 cases o with
 |none=>exact h
 |some q=>simp only[Option.map_some,ah.c9];exact SV.xU h
def sI (bD:Bool) (n:Int) (c:SC):List SC:=match bD with
 |true=>[.v (.int .i64) n,.v (.int .i64) (1:Int),c]
 |false=>[.v (.int .i64) (1:Int),.v (.int .i64) n,c]
theorem RU (bD:Bool) (n:Int) (c:SC):(sI bD n c).map SC.er=kD bD n c.er:=by cases bD<;>rfl
def yA:List SC->Option (List TD)
 |[]=>some []
 |.v t x::l=>match t.dT with
  |true=>match yA l with
   |some ds=>some (⟨t,x⟩::ds)
   |none=>none
  |false=>none
 |_::_=>none
theorem YV:∀{vs:List SC} {ds:List TD},yA vs=some ds->kT (vs.map SC.er)=some (cj ds)
 |[],ds,h=>by simp only[yA] at h;injection h with h;subst h;rfl
 |c::vs,ds,h=>by
  cases c with
  |v t x=>
   simp only[yA] at h
   split at h
   ·rename_i hs
    split at h
    ·rename_i l hl
     injection h with h
     subst h
     simp only[List.map_cons,SC.er,kT,Ty.v8,hs,if_true,YV hl,cj,Option.map_some]
    ·cases h
   ·cases h
  |_=>simp[yA] at h
def RX (us:List Ty) (e:Ty.DL us) (off s i:Nat) (vs:List SC) (k:Ty.DL us->Option ρ):Option ρ:=
 match(Ty.gy us e)[off]? with
 |some ⟨.list ts,ys⟩=>cE ts.length s (cE vs.length s (eB (Ty.eW ts) ((gA (α:=Ty.DL ts) ys i).ab fun _=>match yA vs with
  |some ds=>match pH ts ds with
   |some el=>match IC us e off ⟨.list ts,db (α:=Ty.DL ts) ys i el⟩ with
    |some e'=>k e'
    |none=>none
   |none=>none
  |none=>none)))
 |_=>none
theorem ajZ {us ts:List Ty} {xs:List (Ty.DL us)} {kk off i:Nat} {e e':Ty.DL us} {vs:List SC} {ds:List TD} {el y0:Ty.DL ts} (ys:List (Ty.DL ts)) (he:xs[kk]? =some e) (hd:(Ty.gy us e)[off]? =some ⟨.list ts,ys⟩)
  (ig:vs.length=ts.length) (hs:Ty.eW ts=true) (hy:ys[i]? =some y0) (mE:yA vs=some ds) (mG:pH ts ds=some el) (xJ:IC us e off ⟨.list ts,db ys i el⟩=some e'):
  ua (List.map (Ty.aD us) xs) kk off ts.length i (vs.map SC.er)=some (List.map (Ty.aD us) (db xs kk e')):=by
 have mH:(Ty.aD us e)[off]? =some (.list ts.length (List.map (Ty.aD ts) ys)):=Kw hd
 have hx:(List.map (Ty.aD us) xs)[kk]? =some (Ty.aD us e):=by rw[List.getElem?_map,he];rfl
 have hi:i<(List.map (Ty.aD ts) ys).length:=by rw[List.length_map];exact(List.getElem?_eq_some_iff.1 hy).1
 have VP:Ty.aD us e'=(Ty.aD us e).set off (.list ts.length (List.map (Ty.aD ts) (db ys i el))):=YY xJ
 unfold ua
 rw[hx,Option.bind_some,mH]
 simp only
 rw[if_pos ⟨trivial,by simpa using ig,hi,yz ts ys hs⟩,YV mE,List.getD_eq_getElem?_getD,hx]
 simp only[Option.map_some,Option.getD_some]
 unfold db at VP⊢
 rw[List.map_set,VP,List.map_set,vL mG]
theorem akr {us:List Ty} {xs:List (Ty.DL us)} {kk:Nat} {e:Ty.DL us} {off s i:Nat} {vs:List SC} {k:Ty.DL us->Option ρ} {r:ρ} (he:xs[kk]? =some e) (h:RX us e off s i vs k=some r):
  ∃e',ua (List.map (Ty.aD us) xs) kk off s i (vs.map SC.er)=some (List.map (Ty.aD us) (db xs kk e'))/\k e'=some r:=by
 unfold RX at h
 split at h
 ·rename_i ts ys hd
  have u4:=(aW h).1;replace h:=(aW h).2
  have tp:=(aW h).1;replace h:=(aW h).2
  have hs:=(bX h).1;replace h:=(bX h).2
  rw[eN] at h
  obtain⟨y0,hy,h⟩:=h
  split at h
  ·rename_i ds mE
   split at h
   ·rename_i el mG
    split at h
    ·rename_i e' xJ
     subst u4
     exact⟨e',ajZ ys he hd tp hs hy mE mG xJ,h⟩
    ·cases h
   ·cases h
  ·cases h
 ·cases h
def dI (T:List aJ) (d:Option Nat) (op:cC) (σ:ah) (k:ah->Option ρ):Option ρ:=
 match op with
 |.mv x=>k (σ.put d (σ.ev x))
 |.pick c x y=>match σ.ev c with
  |.one (.v .bool b)=>match σ.ev x,σ.ev y with
   |.one (.v t x'),.one (.v u y')=>match Ty.cast u t y' with
    |some z=>k (σ.put d (.one (.v t (aY b x' z))))
    |none=>aY b (k (σ.put d (σ.ev x))) (k (σ.put d (σ.ev y)))
   |_,_=>aY b (k (σ.put d (σ.ev x))) (k (σ.put d (σ.ev y)))
  |_=>none
 |.alloc zs=>match d with
  |some n=>match σ.ins n (.box zs) with
   |some σ1=>k (σ1.put d (.one (.ptr n 0 0 0)))
   |none=>none
  |none=>none
 |.box sz x=>match d,(σ.ev x).cells? with
  |some n,some (_,cs)=>cE cs.length sz (match σ.ins n (.box cs) with
   |some σ1=>k (σ1.put d (.one (.ptr n 0 0 0)))
   |none=>none)
  |_,_=>none
 |.build zs parts=>match Ed σ.ev zs parts with
  |some cs=>k (σ.put d (.agg cs))
  |none=>none
 |.fg ts parts=>match d with
  |some n=>I0 ts σ (parts.map σ.ev) fun es o σ1=>match σ1.ins n (.row true (Ib o) ts es) with
   |some σ2=>k (σ2.put d (.one (.sl n ts.length 0 es.length)))
   |none=>none
  |none=>none
 |.load ag sz x=>match σ.ev x with
  |.one p=>D3 σ.h p sz fun cs=>k (σ.put d (yN ag cs))
  |_=>none
 |.mQ ag sz x=>match σ.ev x with
  |.one p=>Rp σ p fun σ1=>D3 σ1.h p sz fun cs=>k (σ1.put d (yN ag cs))
  |_=>none
 |.store sz x v=>match σ.ev x,(σ.ev v).cells? with
  |.one (.ptr n kk ax off),some (_,vs)=>cE vs.length sz (match σ.h n with
   |some (.box cs)=>cE kk 0 (eB (Nat.ble (off+sz) cs.length) (k (σ.dd n (.box (bW cs off vs)))))
   |some (.row gr m ts xs)=>cE ax ts.length ((gA xs kk).ab fun e=>RY σ n gr m ts xs kk off e vs k)
   |none=>none)
  |.one (.cD n kk ax off s i),some (_,vs)=>cE vs.length sz (match σ.h n with
   |some (.row gr .live us xs)=>cE ax us.length ((gA xs kk).ab fun e=>RX us e off s i vs fun e'=>k (σ.dd n (.row gr .live us (db xs kk e'))))
   |_=>none)
  |_,_=>none
 |.ga x=>match σ.ev x with
  |.one (.ptr n kk sz off)=>eB (σ.h n).isSome (k (σ.put d (.one (.ptr n kk sz off))))
  |.one (.cd ts x off)=>k (σ.put d (.one (.cd ts x off)))
  |_=>none
 |.bin op x y=>J5 op (σ.ev x) (σ.ev y) fun t z=>k (σ.put d (.one (.v t z)))
 |.nV op x y=>J4 op (σ.ev x) (σ.ev y) fun t z=>k (σ.put d (.one (.v t z)))
 |.un op x=>Sl op (σ.ev x) fun t z=>k (σ.put d (.one (.v t z)))
 |.conv kd x=>match σ.ev x with
  |.one (.v (.int _) n)=>k (σ.put d (.one (.v (.int kd) (Kp kd n))))
  |_=>none
 |.mb m ts by_ z l c=>match d,(σ.ev l).cX,(σ.ev c).cX with
  |some n,some a,some b=>(tU a b by_).ab fun len=>match σ.ins n (.row true m ts (d8 len z)) with
   |some σ1=>k (σ1.put d (.one (.sl n ts.length 0 len)))
   |none=>none
  |_,_,_=>none
 |.slice sz x lo hi=>
  match σ.ev x,H9 σ 0 lo with
  |.one (.sl n s l0 len),some l=>
   match H9 σ (bj len) hi with
   |some h=>cE s sz (eB (σ.h n).isSome ((ud l h len).ab fun p=>k (σ.put d (.one (.sl n s (bF l0 p.1) p.2)))))
   |none=>none
  |.one (.v (.list ts) xs),some l=>
   match H9 σ (bj (aa (α:=Ty.DL ts) xs)) hi with
   |some h=>cE ts.length sz ((ud l h (aa (α:=Ty.DL ts) xs)).ab fun p=>k (σ.put d (.one (.v (.list ts) (sF (α:=Ty.DL ts) xs p.1 p.2)))))
   |none=>none
  |_,_=>none
 |.tail sz x lo=>match d,σ.ev x,(σ.ev lo).cX with
  |some n,.one (.sl a s l0 len),some l=>match σ.h a with
   |some (.row true m ts xs)=>cE s ts.length (cE ts.length sz (cE l0 0 ((af l0 len (aa xs)).ab fun _=>(ud l (bj (aa xs)) (aa xs)).ab fun p=>
    match(σ.del a).ins n (.row true m ts (sF xs p.1 p.2)) with
    |some σ1=>k (σ1.put d (.one (.sl n sz 0 p.2)))
    |none=>none)))
   |_=>none
  |_,_,_=>none
 |.aB off x=>match σ.ev x with
  |.one (.ptr n kk sz o)=>eB (σ.h n).isSome (k (σ.put d (.one (.ptr n kk sz (o+off)))))
  |.one (.cd ts x o)=>k (σ.put d (.one (.cd ts x (o+off))))
  |_=>none
 |.dZ sz x i=>match σ.ev x,(σ.ev i).cX with
  |.one (.sl n s lo len),some j=>cE s sz (eB (σ.h n).isSome ((jH j len).ab fun q=>k (σ.put d (.one (.ptr n (bF lo q) s 0)))))
  |.one (.v (.list ts) xs),some j=>cE ts.length sz ((ji (α:=Ty.DL ts) xs j).ab fun e=>k (σ.put d (.one (.cd ts e 0))))
  |.one (.bx n kk ax off s len),some j=>wm σ.h (.bx n kk ax off s len) fun t x=>match t,x with
   |.list ts,ys=>cE ts.length sz ((jH j (aa (α:=Ty.DL ts) ys)).ab fun q=>k (σ.put d (.one (.cD n kk ax off sz q))))
   |_,_=>none
  |_,_=>none
 |.ext i x=>match σ.ev x with
  |.bn xs=>match xs[i]? with
   |some (ag,cs)=>k (σ.put d (yN ag cs))
   |none=>none
  |_=>none
 |.kj ag off sz x=>match σ.ev x with
  |.agg cs=>match sub cs off sz with
   |some l=>k (σ.put d (yN ag l))
   |none=>none
  |_=>none
 |.kE f bD x=>match σ.ev x with
  |.one (.sl n sz lo len)=>eB (σ.h n).isSome (k (σ.put d (.agg (sI bD (bj len) (.sl n sz lo len)))))
  |.one (.v (.list ts) xs)=>k (σ.put d (.agg (sI bD (bj (aa (α:=Ty.DL ts) xs)) (.v (.list ts) xs))))
  |.one (.nil ts)=>k (σ.put d (.agg (sI bD (0:Int) (.nil ts))))
  |_=>none
 |.len x=>match σ.ev x with
  |.one (.sl n sz lo len)=>eB (σ.h n).isSome (k (σ.put d (.one (.v (.int .i64) (bj len)))))
  |.one (.v (.list ts) xs)=>k (σ.put d (.one (.v (.int .i64) (bj (aa (α:=Ty.DL ts) xs)))))
  |.one (.nil ts)=>k (σ.put d (.one (.v (.int .i64) (0:Int))))
  |.one (.bx n kk ax off sz len)=>wm σ.h (.bx n kk ax off sz len) fun t x=>match t,x with
   |.list ts,ys=>k (σ.put d (.one (.v (.int .i64) (bj (aa (α:=Ty.DL ts) ys)))))
   |_,_=>none
  |_=>none
 |.append fl ts by_ x y=>match d with
  |none=>none
  |some n=>Qz σ ts (σ.ev x) fun xs m σ1=>QA fl σ1 ts m (σ.ev y) fun ys m2 σ2=>
   (lK (bF (aa xs) (aa ys)) by_).ab fun _=>match σ2.ins n (.row true m2 ts (dg xs ys)) with
    |some gj=>k (gj.put d (.one (.sl n ts.length 0 (bF (aa xs) (aa ys)))))
    |none=>none
 |.mm mx x y=>match σ.ev x,σ.ev y with
  |.one (.v (.int kd) a),.one (.v (.int WW) b)=>match mx with
   |true=>k (σ.put d (.one (.v (.int kd) (Ou a b))))
   |false=>k (σ.put d (.one (.v (.int kd) (su a b))))
  |_,_=>none
 |.call m f xs=>IB T m d f (xs.map σ.ev) σ k
 |.lG f xs=>Rk T d f (xs.map σ.ev) σ k
 |.copy x y=>match σ.ev x,σ.ev y with
  |.one (.sl n s lo len),.one c=>match σ.h n with
   |some (.row gr m ts xs)=>cE s 1 (cE ts.length 1 (eB (m.own&&Ty.eW ts) (wm σ.h c fun u ys=>match u,ys with
    |.list us,ys=>match Ty.cast (.list us) (.list ts) ys with
     |some zs=>(Ga (α:=Ty.DL ts) xs lo len (List.take (α:=Ty.DL ts) len zs)).ab fun ar=>k ((σ.dd n (.row gr m ts ar)).put d (.one (.v (.int .i64) (bj (Nat.min (aa (α:=Ty.DL ts) zs) len)))))
     |none=>none
    |_,_=>none)))
   |_=>none
  |_,_=>none
 |.ki t z x=>match σ.ev x with
  |.one (.sl n s lo len)=>match σ.h n with
   |some (.row gr m ts xs)=>cE s 1 (eB (m.own&&t.dT) (match pH ts [⟨t,z⟩] with
    |some e=>(Ga (α:=Ty.DL ts) xs lo len (d8 len e)).ab fun ar=>k ((σ.dd n (.row gr m ts ar)).put d (.bn []))
    |none=>none))
   |_=>none
  |_=>none
 |.oA f xs=>match yF (xs.map σ.ev) with
  |some cs=>k (σ.put d (.one (.fn f cs)))
  |none=>none
 |.lH m x xs=>match σ.ev x with
  |.one (.fn f bY)=>IB T m d f (xs.map σ.ev++bY.map .one) σ k
  |_=>none
 |.fT m f xs=>Rl T m d f (xs.map σ.ev) σ k
 |.dn f xs=>Rj T d f (xs.map σ.ev) σ k
theorem Cl {σ:ah} {n:Nat} {b:SB} (h:σ.h n=some b):σ.er.h n=some b.er:=by simp[ah.er,cL,h]
theorem zx {σ:ah} {n:Nat} (h:(σ.h n).isSome=true):(σ.er.h n).isSome=true:=by
 simp only[ah.er,Uf,h]
theorem Sr (t:Ty) (x:t.D):(SV.one (.v t x)).er=.one (.c (t.er x)):=rfl
theorem TR {ts:List Ty} {xs ar ys:List (Ty.DL ts)} {lo len:Nat} (h:Ga xs lo len ys=some ar):lo+len<=xs.length/\List.map (Ty.aD ts) ar=bW (List.map (Ty.aD ts) xs) lo (List.map (Ty.aD ts) ys):=by
 unfold Ga at h
 split at h
 ·rename_i hc
  injection h with h
  subst h
  exact⟨hc,Bo (Ty.aD ts) xs ys lo⟩
 ·cases h
theorem Ty.aaJ {t u:Ty} {x:t.D} {y:u.D} (h:Ty.cast t u x=some y):t.er x=u.er y:=by
 unfold Ty.cast at h
 split at h
 ·rename_i he
  have:=Ty.beq_eq he
  subst this
  injection h with h
  rw[<-h]
 ·cases h
theorem YZ {T:List aJ} {d:Option Nat} {op:cC} {σ:ah} {k:ah->Option ρ} {r:ρ} (h:dI T d op σ k=some r):
  ∃σ1:ah,aE (de T) d op.er σ.er=some σ1.er/\k σ1=some r:=by
 cases op with
 |mv x=>exact⟨_,by simp only[cC.er,aE,ah.di,ah.c9],h⟩
 |pick c x y=>
  simp only[dI] at h
  split at h
  ·rename_i b hc
   have ct:σ.er.ev c.er=.one (.c (.bool b)):=by rw[ah.c9,hc];rfl
   have cu:∀σ1:ah,σ1.er=σ.er.put d (cond b (σ.ev x).er (σ.ev y).er)->aE (de T) d (cC.er (.pick c x y)) σ.er=some σ1.er:=by
    intro σ1 e
    simp only[cC.er,aE,ct,ah.c9,e]
    cases b<;>rfl
   have gen:aY b (k (σ.put d (σ.ev x))) (k (σ.put d (σ.ev y)))=some r->∃σ1:ah,aE (de T) d (cC.er (.pick c x y)) σ.er=some σ1.er/\k σ1=some r:=by
    intro h
    cases hb:(b:Bool) with
    |true=>rw[hb] at h;exact⟨_,cu _ (by rw[ah.di,hb];rfl),h⟩
    |false=>rw[hb] at h;exact⟨_,cu _ (by rw[ah.di,hb];rfl),h⟩
   split at h
   ·rename_i t x' u y' ex ey
    split at h
    ·rename_i z hz
     refine⟨_,cu _ ?_,h⟩
     rw[ah.di,ex,ey,Sr,Sr,Sr,Ty.Tv hz]
     cases (b:Bool)<;>rfl
    ·exact gen h
   ·exact gen h
  ·cases h
 |alloc zs=>
  simp only[dI] at h
  split at h
  ·rename_i n
   split at h
   ·rename_i σ1 e
    have:=ah.rI e
    exact⟨_,by simp only[cC.er,aE];rw[show aq.box (zs.map SC.er)=(SB.box zs).er from rfl,this,ah.di];rfl,h⟩
   ·cases h
  ·cases h
 |box sz x=>
  simp only[dI] at h
  split at h
  ·rename_i n b cs hc
   have bq:=(aW h).1;replace h:=(aW h).2;subst bq
   split at h
   ·rename_i σ1 e
    have:=ah.rI e
    refine⟨_,?_,h⟩
    simp only[cC.er,aE,ah.c9,SV.lI hc,List.length_map,if_true]
    rw[show aq.box (cs.map SC.er)=(SB.box cs).er from rfl,this,ah.di];rfl
   ·cases h
  ·cases h
 |build zs parts=>
  simp only[dI] at h
  split at h
  ·rename_i cs hc
   exact⟨_,by simp only[cC.er,aE,Zx hc,ah.di];rfl,h⟩
  ·cases h
 |fg ts parts=>
  simp only[dI] at h
  split at h
  ·rename_i n
   obtain⟨es,o,σ1,h1,h2⟩:=Zy h
   split at h2
   ·rename_i σ2 e
    have i:=ah.rI e
    refine⟨_,?_,h2⟩
    simp only[cC.er,aE,xc,h1,ah.di]
    have:(SB.row true (Ib o) ts es).er=aq.row true (Ib o) ts.length (List.map (Ty.aD ts) es):=rfl
    rw[ail,<-this,i,List.length_map]
    rfl
   ·cases h2
  ·cases h
 |load ag sz x=>
  simp only[dI] at h
  split at h
  ·rename_i p hp
   obtain⟨l,h1,h2⟩:=Rw h
   have aX:σ.er.ev x.er=.one p.er:=by rw[ah.c9,hp];rfl
   have iB:loadAt σ.er.h p.er sz=some (l.map SC.er):=h1
   exact⟨_,by simp only[cC.er,aE,aX,iB,ah.di,Bw],h2⟩
  ·cases h
 |mQ ag sz x=>
  simp only[dI] at h
  split at h
  ·rename_i p hp
   obtain⟨σ1,h0,h⟩:=aj0 h
   obtain⟨l,h1,h2⟩:=Rw h
   have aX:σ.er.ev x.er=.one p.er:=by rw[ah.c9,hp];rfl
   have iB:loadAt σ1.er.h p.er sz=some (l.map SC.er):=h1
   exact⟨_,by simp only[cC.er,aE,aX,h0,iB,ah.di,Bw],h2⟩
  ·cases h
 |store sz x v=>
  simp only[dI] at h
  split at h
  ·rename_i n kk ax off b vs hp hc
   have bq:=(aW h).1;replace h:=(aW h).2;subst bq
   have aX:σ.er.ev x.er=.one (.ptr n kk ax off):=by rw[ah.c9,hp];rfl
   have ct:(σ.er.ev v.er).cells?=some (b,vs.map SC.er):=by rw[ah.c9];exact SV.lI hc
   split at h
   ·rename_i cs hn
    have bq:=(aW h).1;replace h:=(aW h).2;subst bq
    have hb:=(bX h).1;replace h:=(bX h).2
    have gE:=Nat.le_of_ble_eq_true hb
    refine⟨_,?_,h⟩
    simp only[cC.er,aE,aX,ct,List.length_map,if_true,Cl hn,SB.er,gE,and_self,ah.nY,<-Bo]
   ·rename_i gr m ts xs hn
    have bq:=(aW h).1;replace h:=(aW h).2;subst bq
    rw[eN] at h
    obtain⟨e,he,h⟩:=h
    replace he:xs[kk]? =some e:=he
    obtain⟨σ1,s1,s2⟩:=aks h
    refine⟨σ1,?_,s2⟩
    have mH:(List.map (Ty.aD ts) xs)[kk]? =some (Ty.aD ts e):=by rw[List.getElem?_map,he];rfl
    simp only[cC.er,aE,aX,ct,List.length_map,if_true,Cl hn,SB.er,mH,s1]
   ·cases h
  ·rename_i n kk ax off s i b vs hp hc
   have bq:=(aW h).1;replace h:=(aW h).2;subst bq
   have aX:σ.er.ev x.er=.one (.cD n kk ax off s i):=by rw[ah.c9,hp];rfl
   have ct:(σ.er.ev v.er).cells?=some (b,vs.map SC.er):=by rw[ah.c9];exact SV.lI hc
   split at h
   ·rename_i gr us xs hn
    have bq:=(aW h).1;replace h:=(aW h).2;subst bq
    rw[eN] at h
    obtain⟨e,he,h⟩:=h
    replace he:xs[kk]? =some e:=he
    obtain⟨e',s1,s2⟩:=akr he h
    refine⟨_,?_,s2⟩
    simp only[cC.er,aE,aX,ct,List.length_map,if_true,Cl hn,SB.er,s1,ah.nY]
   ·cases h
  ·cases h
 |ga x=>
  simp only[dI] at h
  split at h
  ·rename_i n kk sz off hp
   have hb:=(bX h).1;replace h:=(bX h).2
   have aX:σ.er.ev x.er=.one (.ptr n kk sz off):=by rw[ah.c9,hp];rfl
   exact⟨_,by simp only[cC.er,aE,aX,zx hb,if_true,ah.di];rfl,h⟩
  ·rename_i ts y off hp
   have aX:σ.er.ev x.er=.one (.cd (Ty.aD ts y) off):=by rw[ah.c9,hp];rfl
   exact⟨_,by simp only[cC.er,aE,aX,ah.di];rfl,h⟩
  ·cases h
 |bin op x y=>
  simp only[dI] at h
  obtain⟨t,z,h1,h2⟩:=aaD h
  exact⟨_,by simp only[cC.er,aE,ah.c9,h1,ah.di];rfl,h2⟩
 |nV op x y=>
  simp only[dI] at h
  obtain⟨t,z,h1,h2⟩:=aaB h
  exact⟨_,by simp only[cC.er,aE,ah.c9,h1,ah.di];rfl,h2⟩
 |un op x=>
  simp only[dI] at h
  obtain⟨t,z,h1,h2⟩:=ak6 h
  exact⟨_,by simp only[cC.er,aE,ah.c9,h1,ah.di];rfl,h2⟩
 |conv kd x=>
  simp only[dI] at h
  split at h
  ·rename_i k' n hp
   have aX:σ.er.ev x.er=.one (.c (.int k' n)):=by rw[ah.c9,hp];rfl
   exact⟨_,by simp only[cC.er,aE,aX,ah.di];rfl,h⟩
  ·cases h
 |mb m ts by_ z l c=>
  simp only[dI] at h
  split at h
  ·rename_i n a b ha hb
   rw[eN] at h
   obtain⟨len,hm,h⟩:=h
   unfold tU at hm
   split at hm
   ·rename_i cz
    injection hm with hm
    subst hm
    split at h
    ·rename_i σ1 e
     have i:=ah.rI e
     have qy:(σ.er.ev l.er).cX=some a:=by rw[ah.c9];exact SV.xU ha
     have aR:(σ.er.ev c.er).cX=some b:=by rw[ah.c9];exact SV.xU hb
     refine⟨_,?_,h⟩
     have hz:(Ty.aD ts z).length=ts.length:=Ty.Cj ts z
     have fZ:(SB.row true m ts (d8 a.toNat z)).er=aq.row true m ts.length (List.replicate a.toNat (Ty.aD ts z)):=by simp[SB.er,d8,List.map_replicate]
     have Lz:a<=b/\0<=a/\b.toNat*by_<=eK/\(Ty.aD ts z).length=ts.length:=⟨cz.1,cz.2.1,cz.2.2,hz⟩
     simp only[cC.er,aE,qy,aR,if_pos Lz,<-fZ,i,ah.di]
     rfl
    ·cases h
   ·cases hm
  ·cases h
 |slice sz x lo hi=>
  simp only[dI] at h
  split at h
  ·rename_i n s l0 len l hp el
   have aX:σ.er.ev x.er=.one (.sl n s l0 len):=by rw[ah.c9,hp];rfl
   split at h
   ·rename_i hh eh
    have bq:=(aW h).1;replace h:=(aW h).2;subst bq
    have hb:=(bX h).1;replace h:=(bX h).2
    rw[eN] at h
    obtain⟨p,hs,h⟩:=h
    unfold ud at hs
    split at hs
    ·rename_i cz
     injection hs with hs
     subst hs
     refine⟨_,?_,h⟩
     have tm:s=s/\0<=l/\l<=hh/\hh<=len/\(σ.er.h n).isSome=true:=⟨rfl,cz.1,cz.2.1,cz.2.2,zx hb⟩
     have e1:=Ia el
     have e2:=Ia eh
     rw[ah.di]
     cases lo with
     |none=>
      simp only[Option.map_none,Option.some.injEq] at e1
      subst e1
      cases hi with
      |none=>
       simp only[Option.map_none,Option.some.injEq] at e2
       subst e2
       simp only[cC.er,aE,aX,Option.map_none]
       exact if_pos ⟨trivial,tm.2⟩
      |some q=>
       simp only[Option.map_some] at e2
       simp only[cC.er,aE,aX,Option.map_none,Option.map_some,e2]
       exact if_pos ⟨trivial,tm.2⟩
     |some q0=>
      simp only[Option.map_some] at e1
      cases hi with
      |none=>
       simp only[Option.map_none,Option.some.injEq] at e2
       subst e2
       simp only[cC.er,aE,aX,Option.map_none,Option.map_some,e1]
       exact if_pos ⟨trivial,tm.2⟩
      |some q=>
       simp only[Option.map_some] at e2
       simp only[cC.er,aE,aX,Option.map_some,e1,e2]
       exact if_pos ⟨trivial,tm.2⟩
    ·cases hs
   ·cases h
  ·rename_i ts xs l hp el
   have aX:σ.er.ev x.er=.one (.c (.list ts.length (List.map (Ty.aD ts) xs))):=by rw[ah.c9,hp];rfl
   split at h
   ·rename_i hh eh
    have bq:=(aW h).1;replace h:=(aW h).2;subst bq
    rw[eN] at h
    obtain⟨p,hs,h⟩:=h
    unfold ud at hs
    split at hs
    ·rename_i cz
     injection hs with hs
     subst hs
     refine⟨_,?_,h⟩
     have tm:ts.length=ts.length/\0<=l/\l<=hh/\hh<=(List.map (Ty.aD ts) xs).length:=⟨rfl,cz.1,cz.2.1,Int.le_trans cz.2.2 (Int.le_of_eq (congrArg _ (List.length_map (Ty.aD ts)).symm))⟩
     have e1:=Ia el
     have e2:(match hi.map cB.er with|none=>some (((List.map (Ty.aD ts) xs).length:Nat):Int)|some q=>(σ.er.ev q).cX)=some hh:=by rw[show(List.map (Ty.aD ts) xs).length=List.length (α:=Ty.DL ts) xs from List.length_map (Ty.aD ts)];exact Ia eh
     rw[ah.di]
     have Ma:List.map (Ty.aD ts) (List.take (hh - l).toNat (List.drop (α:=Ty.DL ts) l.toNat xs))=((List.map (Ty.aD ts) xs).drop l.toNat).take (hh - l).toNat:=by
      rw[List.map_take]
      exact congrArg (List.take (hh - l).toNat) List.map_drop
     refine Eq.trans ?_ (congrArg (fun q=>some (σ.er.put d (ak.one (.c (.list ts.length q))))) Ma.symm)
     cases lo with
     |none=>
      simp only[Option.map_none,Option.some.injEq] at e1
      subst e1
      cases hi with
      |none=>
       simp only[Option.map_none,Option.some.injEq] at e2
       subst e2
       simp only[cC.er,aE,aX,Option.map_none]
       exact if_pos ⟨trivial,tm.2⟩
      |some q=>
       simp only[Option.map_some] at e2
       simp only[cC.er,aE,aX,Option.map_none,Option.map_some,e2]
       exact if_pos ⟨trivial,tm.2⟩
     |some q0=>
      simp only[Option.map_some] at e1
      cases hi with
      |none=>
       simp only[Option.map_none,Option.some.injEq] at e2
       subst e2
       simp only[cC.er,aE,aX,Option.map_none,Option.map_some,e1]
       exact if_pos ⟨trivial,tm.2⟩
      |some q=>
       simp only[Option.map_some] at e2
       simp only[cC.er,aE,aX,Option.map_some,e1,e2]
       exact if_pos ⟨trivial,tm.2⟩
    ·cases hs
   ·cases h
  ·cases h
 |tail sz x lo=>
  simp only[dI] at h
  split at h
  ·rename_i n a0 s l0 len l hp hl
   have aX:σ.er.ev x.er=.one (.sl a0 s l0 len):=by rw[ah.c9,hp];rfl
   have dq:(σ.er.ev lo.er).cX=some l:=by rw[ah.c9];exact SV.xU hl
   split at h
   ·rename_i m ts xs hn
    have bq:=(aW h).1;replace h:=(aW h).2;subst bq
    have bq:=(aW h).1;replace h:=(aW h).2;subst bq
    have bq:=(aW h).1;replace h:=(aW h).2;subst bq
    rw[eN] at h
    obtain⟨_,hf,h⟩:=h
    obtain⟨_,hlen⟩:=Lj hf
    rw[eN] at h
    obtain⟨p,hs,h⟩:=h
    unfold ud at hs
    split at hs
    ·rename_i cz
     injection hs with hs
     subst hs
     simp only at h
     split at h
     ·rename_i σ1 e1
      refine⟨_,?_,h⟩
      have adk:len=xs.length:=hlen
      have Vn:0<=l/\l<=(xs.length:Int):=⟨cz.1,cz.2.1⟩
      have bk:σ.er.h a0=some (.row true m ts.length (List.map (Ty.aD ts) xs)):=by simp[ah.er,cL,hn,SB.er]
      have i1:=ah.rI e1
      have e2:(bj (aa xs) - l).toNat=xs.length - l.toNat:=by simp only[bj,aa];omega
      have e3:sF xs l.toNat (bj (aa xs) - l).toNat=xs.drop l.toNat:=by rw[e2];unfold sF;rw[List.take_of_length_le (by simp)]
      rw[e3] at i1
      simp only[SB.er,ah.Gq,List.map_drop] at i1
      simp only[cC.er,aE,aX,dq,bk,List.length_map,adk,Vn.1,Vn.2,and_self,if_true,i1,ah.di,SV.er,SC.er,e2]
     ·cases h
    ·cases hs
   ·cases h
  ·cases h
 |aB off x=>
  simp only[dI] at h
  split at h
  ·rename_i n kk sz o hp
   have hb:=(bX h).1;replace h:=(bX h).2
   have aX:σ.er.ev x.er=.one (.ptr n kk sz o):=by rw[ah.c9,hp];rfl
   exact⟨_,by simp only[cC.er,aE,aX,zx hb,if_true,ah.di];rfl,h⟩
  ·rename_i ts y o hp
   have aX:σ.er.ev x.er=.one (.cd (Ty.aD ts y) o):=by rw[ah.c9,hp];rfl
   exact⟨_,by simp only[cC.er,aE,aX,ah.di];rfl,h⟩
  ·cases h
 |dZ sz x i=>
  simp only[dI] at h
  split at h
  ·rename_i n s lo len j hp hi
   have bq:=(aW h).1;replace h:=(aW h).2;subst bq
   have hb:=(bX h).1;replace h:=(bX h).2
   rw[eN] at h
   obtain⟨q,hq,h⟩:=h
   unfold jH at hq
   split at hq
   ·rename_i cz
    injection hq with hq
    subst hq
    have aX:σ.er.ev x.er=.one (.sl n s lo len):=by rw[ah.c9,hp];rfl
    have hi':(σ.er.ev i.er).cX=some j:=by rw[ah.c9];exact SV.xU hi
    refine⟨_,?_,h⟩
    have Lz:s=s/\0<=j/\j<len/\(σ.er.h n).isSome=true:=⟨rfl,cz.1,cz.2,zx hb⟩
    simp only[cC.er,aE,aX,hi',ah.di]
    exact if_pos ⟨trivial,Lz.2⟩
   ·cases hq
  ·rename_i ts xs j hp hi
   have bq:=(aW h).1;replace h:=(aW h).2;subst bq
   rw[eN] at h
   obtain⟨e,he,h⟩:=h
   unfold ji at he
   split at he
   ·rename_i cz
    have aX:σ.er.ev x.er=.one (.c (.list ts.length (List.map (Ty.aD ts) xs))):=by rw[ah.c9,hp];rfl
    have hi':(σ.er.ev i.er).cX=some j:=by rw[ah.c9];exact SV.xU hi
    have mH:(List.map (Ty.aD ts) xs)[j.toNat]? =some (Ty.aD ts e):=agy (Ty.aD ts) he
    refine⟨_,?_,h⟩
    simp only[cC.er,aE,aX,hi',cz,and_self,if_true,mH,ah.di]
    rfl
   ·cases he
  ·rename_i n kk ax off s len j hp hi
   obtain⟨t,y,h1,h2⟩:=Bu h
   have aX:σ.er.ev x.er=.one (.bx n kk ax off s len):=by rw[ah.c9,hp];rfl
   have hi':(σ.er.ev i.er).cX=some j:=by rw[ah.c9];exact SV.xU hi
   have iB:bU σ.er.h (.bx n kk ax off s len)=some (t.er y):=h1
   split at h2
   ·rename_i ts ys
    have bq:=(aW h2).1;replace h2:=(aW h2).2;subst bq
    rw[eN] at h2
    obtain⟨q,hq,h2⟩:=h2
    unfold jH at hq
    split at hq
    ·rename_i cz
     injection hq with hq
     subst hq
     refine⟨_,?_,h2⟩
     simp only[cC.er,aE,aX,hi',iB,Ty.er,ah.di]
     exact if_pos ⟨trivial,cz.1,by rw[show(List.map (Ty.aD ts) ys).length=aa (α:=Ty.DL ts) ys from List.length_map (Ty.aD ts)];exact cz.2⟩
    ·cases hq
   ·cases h2
  ·cases h
 |ext i x=>
  simp only[dI] at h
  split at h
  ·rename_i xs hp
   split at h
   ·rename_i ag cs hg
    have aX:σ.er.ev x.er=.bn (xs.map fun x=>(x.1,x.2.map SC.er)):=by rw[ah.c9,hp];rfl
    refine⟨_,?_,h⟩
    simp only[cC.er,aE,aX,List.getElem?_map,hg,Option.map_some,ah.di,Bw]
   ·cases h
  ·cases h
 |kj ag off sz x=>
  simp only[dI] at h
  split at h
  ·rename_i cs hp
   have aX:σ.er.ev x.er=.agg (cs.map SC.er):=by rw[ah.c9,hp];rfl
   split at h
   ·rename_i l hl
    exact⟨_,by simp only[cC.er,aE,aX,sJ,hl,Option.map_some,ah.di,Bw],h⟩
   ·cases h
  ·cases h
 |kE f bD x=>
  simp only[dI] at h
  split at h
  ·rename_i n sz lo len hp
   have hb:=(bX h).1;replace h:=(bX h).2
   have aX:σ.er.ev x.er=.one (.sl n sz lo len):=by rw[ah.c9,hp];rfl
   refine⟨_,?_,h⟩
   simp only[cC.er,aE,aX,zx hb,if_true,ah.di]
   rw[show(SV.agg (sI bD (bj len) (.sl n sz lo len))).er=.agg ((sI bD (bj len) (.sl n sz lo len)).map SC.er) from rfl,RU]
   rfl
  ·rename_i ts xs hp
   have aX:σ.er.ev x.er=.one (.c (.list ts.length (List.map (α:=Ty.DL ts) (Ty.aD ts) xs))):=by rw[ah.c9,hp];rfl
   refine⟨_,?_,h⟩
   simp only[cC.er,aE,aX,ah.di]
   rw[show(SV.agg (sI bD (bj (aa (α:=Ty.DL ts) xs)) (.v (.list ts) xs))).er=.agg ((sI bD (bj (aa (α:=Ty.DL ts) xs)) (.v (.list ts) xs)).map SC.er) from rfl,RU]
   congr 3
   congr 1
   exact congrArg Int.ofNat (List.length_map (as:=(xs:List (Ty.DL ts))) (Ty.aD ts))
  ·rename_i ts hp
   have aX:σ.er.ev x.er=.one (.nil ts.length):=by rw[ah.c9,hp];rfl
   refine⟨_,?_,h⟩
   simp only[cC.er,aE,aX,ah.di]
   rw[show(SV.agg (sI bD (0:Int) (.nil ts))).er=.agg ((sI bD (0:Int) (.nil ts)).map SC.er) from rfl,RU]
   rfl
  ·cases h
 |len x=>
  simp only[dI] at h
  split at h
  ·rename_i n sz lo len hp
   have hb:=(bX h).1;replace h:=(bX h).2
   have aX:σ.er.ev x.er=.one (.sl n sz lo len):=by rw[ah.c9,hp];rfl
   exact⟨_,by simp only[cC.er,aE,aX,zx hb,if_true,ah.di];rfl,h⟩
  ·rename_i ts xs hp
   have aX:σ.er.ev x.er=.one (.c (.list ts.length (List.map (Ty.aD ts) xs))):=by rw[ah.c9,hp];rfl
   exact⟨_,by simp only[cC.er,aE,aX,ah.di];exact congrArg (fun q:Nat=>some (σ.er.put d (ak.one (.c (.int .i64 (q:Int)))))) (List.length_map (Ty.aD ts)),h⟩
  ·rename_i ts hp
   have aX:σ.er.ev x.er=.one (.nil ts.length):=by rw[ah.c9,hp];rfl
   exact⟨_,by simp only[cC.er,aE,aX,ah.di];rfl,h⟩
  ·rename_i n kk ax off sz len hp
   obtain⟨t,y,h1,h2⟩:=Bu h
   have aX:σ.er.ev x.er=.one (.bx n kk ax off sz len):=by rw[ah.c9,hp];rfl
   have iB:bU σ.er.h (.bx n kk ax off sz len)=some (t.er y):=h1
   split at h2
   ·rename_i ts ys
    exact⟨_,by simp only[cC.er,aE,aX,iB,Ty.er,ah.di];exact congrArg (fun q:Nat=>some (σ.er.put d (ak.one (.c (.int .i64 (q:Int)))))) (List.length_map (Ty.aD ts)),h2⟩
   ·cases h2
  ·cases h
 |append fl ts by_ x y=>
  simp only[dI] at h
  split at h
  ·cases h
  ·rename_i n
   obtain⟨xs,m,σ1,h1,h2⟩:=ajI h
   obtain⟨ys,m2,σ2,h3,h4⟩:=ajJ h2
   rw[eN] at h4
   obtain⟨_,hf,h4⟩:=h4
   unfold lK at hf
   split at hf
   ·rename_i hb
    split at h4
    ·rename_i gj e
     have i:=ah.rI e
     refine⟨_,?_,h4⟩
     replace hb:(xs.length+ys.length)*by_<=eK:=hb
     have fZ:(SB.row true m2 ts (dg xs ys)).er=aq.row true m2 ts.length (List.map (Ty.aD ts) xs++List.map (Ty.aD ts) ys):=by simp[SB.er,dg]
     simp only[cC.er,aE,ah.c9,h1,h3,List.length_map,hb,if_true,<-fZ,i,ah.di]
     rfl
    ·cases h4
   ·cases hf
 |mm mx x y=>
  simp only[dI] at h
  split at h
  ·rename_i kd a WW b ex ey
   have Ui:σ.er.ev x.er=.one (.c (.int kd a)):=by rw[ah.c9,ex];rfl
   have Ux:σ.er.ev y.er=.one (.c (.int WW b)):=by rw[ah.c9,ey];rfl
   split at h
   ·refine⟨_,?_,h⟩
    rw[ah.di]
    simp only[cC.er,aE,Ui,Ux,if_true]
    by_cases eE:LT.lt (α:=Int) a b
    ·exact(if_pos eE).trans (congrArg (fun q:Int=>some (σ.er.put d (ak.one (.c (.int kd q))))) (if_pos eE:Ou a b=b).symm)
    ·exact(if_neg eE).trans (congrArg (fun q:Int=>some (σ.er.put d (ak.one (.c (.int kd q))))) (if_neg eE:Ou a b=a).symm)
   ·refine⟨_,?_,h⟩
    rw[ah.di]
    simp only[cC.er,aE,Ui,Ux,Bool.false_eq_true,if_false]
    by_cases eE:LT.lt (α:=Int) b a
    ·exact(if_pos eE).trans (congrArg (fun q:Int=>some (σ.er.put d (ak.one (.c (.int kd q))))) (if_pos eE:su a b=b).symm)
    ·exact(if_neg eE).trans (congrArg (fun q:Int=>some (σ.er.put d (ak.one (.c (.int kd q))))) (if_neg eE:su a b=a).symm)
  ·cases h
 |call m f xs=>
  simp only[dI] at h
  obtain⟨σ1,h1,h2⟩:=YW h
  exact⟨σ1,by simp only[cC.er,aE,xc];exact h1,h2⟩
 |copy x y=>
  simp only[dI] at h
  split at h
  ·rename_i n s lo len c hp hq
   split at h
   ·rename_i gr m ts xs hn
    have bq:=(aW h).1;replace h:=(aW h).2;subst bq
    have ht:=(aW h).1;replace h:=(aW h).2
    have hb:=(bX h).1;replace h:=(bX h).2
    simp only[Bool.and_eq_true] at hb
    obtain⟨u,ys,h1,h2⟩:=Bu h
    split at h2
    ·rename_i us ys
     split at h2
     ·rename_i zs hz
      rw[eN] at h2
      obtain⟨ar,hc,h2⟩:=h2
      refine⟨_,?_,h2⟩
      have aX:σ.er.ev x.er=.one (.sl n 1 lo len):=by rw[ah.c9,hp];rfl
      have dM:σ.er.ev y.er=.one c.er:=by rw[ah.c9,hq];rfl
      have qN:Ty.er (.list us) ys=Ty.er (.list ts) zs:=by
       have:=Ty.aaJ hz
       exact this
      have iB:bU σ.er.h c.er=some (.list ts.length (List.map (Ty.aD ts) zs)):=by
       have:bU σ.er.h c.er=some (Ty.er (.list us) ys):=h1
       rw[this,qN];rfl
      obtain⟨c1,c2⟩:=TR hc
      have gF:m≠ .aA:=by rintro rfl;exact absurd hb.1 (by simp[Mode.own])
      simp only[cC.er,aE,aX,dM,Cl hn,SB.er,iB]
      rw[if_pos ⟨trivial,trivial,ht,ht,gF,yz ts xs hb.2,yz ts zs hb.2,by rw[List.length_map];exact c1⟩]
      rw[ah.di,ah.nY]
      simp only[SB.er,c2,ht]
      rw[show List.map (Ty.aD ts) (List.take (α:=Ty.DL ts) len zs)=List.take len (List.map (Ty.aD ts) zs) from List.map_take,show(List.map (Ty.aD ts) zs).length=aa (α:=Ty.DL ts) zs from List.length_map _]
      rfl
     ·cases h2
    ·cases h2
   ·cases h
  ·cases h
 |ki t z x=>
  simp only[dI] at h
  split at h
  ·rename_i n s lo len hp
   split at h
   ·rename_i gr m ts xs hn
    have bq:=(aW h).1;replace h:=(aW h).2;subst bq
    have hb:=(bX h).1;replace h:=(bX h).2
    simp only[Bool.and_eq_true] at hb
    split at h
    ·rename_i e he
     rw[eN] at h
     obtain⟨ar,hc,h⟩:=h
     refine⟨_,?_,h⟩
     have aX:σ.er.ev x.er=.one (.sl n 1 lo len):=by rw[ah.c9,hp];rfl
     have mG:Ty.aD ts e=[t.er z]:=vL he
     have hlen:ts.length=1:=by
      have:=congrArg List.length mG
      rw[Ty.Cj] at this
      exact this
     have rW:Ty.eW ts=true:=by
      have:=Ty.Iz ts e
      rw[mG] at this
      simp only[Am.eW,List.all_cons,List.all_nil,Bool.and_true,Ty.v8,hb.2] at this
      exact this.symm
     obtain⟨c1,c2⟩:=TR hc
     have gF:m≠ .aA:=by rintro rfl;exact absurd hb.1 (by simp[Mode.own])
     simp only[cC.er,aE,aX,Cl hn,SB.er]
     rw[if_pos ⟨trivial,hlen,by rw[Ty.v8];exact hb.2,gF,yz ts xs rW,by rw[List.length_map];exact c1⟩]
     rw[ah.di,ah.nY]
     simp only[SB.er,c2,hlen,d8,List.map_replicate,mG]
     rfl
    ·cases h
   ·cases h
  ·cases h
 |lG f xs=>
  simp only[dI] at h
  obtain⟨v,h1,h2⟩:=ajT h
  refine⟨_,?_,h2⟩
  simp only[cC.er,aE,xc]
  rw[h1]
  simp only[ah.di]
 |oA f xs=>
  simp only[dI] at h
  split at h
  ·rename_i cs hc
   obtain⟨h1,h2⟩:=Zb hc
   refine⟨_,?_,h⟩
   simp only[cC.er,aE,xc]
   split
   ·rename_i cs' e
    have e2:some cs'=some (cs.map SC.er):=e.symm.trans h1
    injection e2 with e2
    subst e2
    rw[if_pos h2,ah.di]
    simp only[SV.er,SC.er,SC.Cm]
   ·rename_i e
    have e2:none=some (cs.map SC.er):=e.symm.trans h1
    cases e2
  ·cases h
 |fT m f xs=>
  simp only[dI] at h
  obtain⟨σ1,h1,h2⟩:=ajU h
  exact⟨σ1,by simp only[cC.er,aE,xc];exact h1,h2⟩
 |dn f xs=>
  simp only[dI] at h
  obtain⟨σ1,h1,h2⟩:=ajS h
  exact⟨σ1,by simp only[cC.er,aE,xc];exact h1,h2⟩
 |lH m x xs=>
  simp only[dI] at h
  split at h
  ·rename_i f bY hp
   have aX:σ.er.ev x.er=.one (.fn f (bY.map SC.er)):=by rw[ah.c9,hp];simp only[SV.er,SC.er,SC.Cm]
   obtain⟨σ1,h1,h2⟩:=YW h
   refine⟨σ1,?_,h2⟩
   simp only[cC.er,aE,aX,xc]
   rw[List.map_append] at h1
   simp only[List.map_map] at h1⊢
   exact h1
  ·cases h
structure eM where
 dst:Option Nat
 op:cC
 guard:Option (Nat×Bool)
def eM.er (o:eM):bN:=⟨o.dst,o.op.er,o.guard⟩
def ah.lit (σ:ah) (n:Nat) (b:Bool):ah:={σ with env:=au σ.env n (.one (.v .bool b))}
theorem ah.Ck {σ:ah} {n:Nat} {b:Bool} (h:σ.env n=.one (.v .bool b)):(σ.lit n b).er=σ.er:=by
 have:au σ.env n (.one (.v .bool b))=σ.env:=by
  funext s
  simp only[iK]
  split
  ·rename_i hs;subst hs;exact h.symm
  ·rfl
 simp only[ah.lit,this]
def pV (T:List aJ):List eM->ah->(ah->Option ρ)->Option ρ
 |[],σ,k=>k σ
 |o::os,σ,k=>match o.guard with
  |none=>dI T o.dst o.op σ fun σ1=>pV T os σ1 k
  |some (s,ka)=>match σ.env s with
   |.one (.v .bool b)=>aY b
    (match ka with
     |true=>dI T o.dst o.op (σ.lit s true) fun σ1=>pV T os σ1 k
     |false=>pV T os ((σ.lit s true).put o.dst (.bn [])) k)
    (match ka with
     |true=>pV T os ((σ.lit s false).put o.dst (.bn [])) k
     |false=>dI T o.dst o.op (σ.lit s false) fun σ1=>pV T os σ1 k)
   |.bn []=>pV T os (σ.put o.dst (.bn [])) k
   |_=>none
theorem Rn {T:List aJ}:∀{os:List eM} {σ:ah} {k:ah->Option ρ} {r:ρ},pV T os σ k=some r->
  ∃σ1:ah,ng (de T) (os.map eM.er) σ.er=some σ1.er/\k σ1=some r
 |[],σ,k,r,h=>⟨σ,rfl,h⟩
 |o::os,σ,k,r,h=>by
  obtain⟨d,op,g⟩:=o
  have run:∀je:ah,je.er=σ.er->eg (de T) (eM.er ⟨d,op,g⟩) σ.er=aE (de T) d op.er σ.er->dI T d op je (fun σ1=>pV T os σ1 k)=some r->
    ∃σ1:ah,ng (de T) ((⟨d,op,g⟩::os).map eM.er) σ.er=some σ1.er/\k σ1=some r:=by
   intro je h0 he hs
   obtain⟨σ1,h1,h2⟩:=YZ hs
   obtain⟨σ2,h3,h4⟩:=Rn h2
   rw[h0] at h1
   exact⟨σ2,by simp only[List.map_cons,ng,he,h1,h3],h4⟩
  have yC:∀je:ah,je.er=σ.er->eg (de T) (eM.er ⟨d,op,g⟩) σ.er=some (σ.er.put d (.bn []))->pV T os (je.put d (.bn [])) k=some r->
    ∃σ1:ah,ng (de T) ((⟨d,op,g⟩::os).map eM.er) σ.er=some σ1.er/\k σ1=some r:=by
   intro je h0 he hs
   obtain⟨σ2,h3,h4⟩:=Rn hs
   rw[ah.di,h0] at h3
   exact⟨σ2,by simp only[List.map_cons,ng,he];exact h3,h4⟩
  cases g with
  |none=>exact run σ rfl rfl h
  |some g=>
   obtain⟨s,ka⟩:=g
   simp only[pV] at h
   split at h
   ·rename_i b hs
    have jp:σ.er.env s=.one (.c (.bool b)):=by show(σ.env s).er=_;rw[hs];rfl
    cases hb:(b:Bool) with
    |true=>
     have h0:(σ.lit s true).er=σ.er:=ah.Ck (by rw[hs,hb])
     rw[hb] at h
     simp only[zq] at h
     cases ka with
     |true=>exact run _ h0 (by simp[eg,eM.er,jp,hb]) h
     |false=>exact yC _ h0 (by simp[eg,eM.er,jp,hb]) h
    |false=>
     have h0:(σ.lit s false).er=σ.er:=ah.Ck (by rw[hs,hb])
     rw[hb] at h
     simp only[zp] at h
     cases ka with
     |true=>exact yC _ h0 (by simp[eg,eM.er,jp,hb]) h
     |false=>exact run _ h0 (by simp[eg,eM.er,jp,hb]) h
   ·rename_i hs
    have jp:σ.er.env s=.bn []:=by show(σ.env s).er=_;rw[hs];rfl
    exact yC σ rfl (by simp[eg,eM.er,jp]) h
   ·cases h
def pW (T:List aJ) (ps:List (Nat×Nat)):List eM->List (Option FP)->ah->(ah->Option ρ)->Option ρ
 |[],cK,σ,k=>eB (vR ps cK) (k σ)
 |o::os,cK,σ,k=>match o.guard with
  |none=>dI T o.dst o.op σ fun σ1=>pW T ps os (cK++[o.er.fp σ.er]) σ1 k
  |some (s,ka)=>match σ.env s with
   |.one (.v .bool b)=>aY b
    (match ka with
     |true=>dI T o.dst o.op (σ.lit s true) fun σ1=>pW T ps os (cK++[o.er.fp (σ.lit s true).er]) σ1 k
     |false=>pW T ps os (cK++[o.er.fp (σ.lit s true).er]) ((σ.lit s true).put o.dst (.bn [])) k)
    (match ka with
     |true=>pW T ps os (cK++[o.er.fp (σ.lit s false).er]) ((σ.lit s false).put o.dst (.bn [])) k
     |false=>dI T o.dst o.op (σ.lit s false) fun σ1=>pW T ps os (cK++[o.er.fp (σ.lit s false).er]) σ1 k)
   |.bn []=>pW T ps os (cK++[o.er.fp σ.er]) (σ.put o.dst (.bn [])) k
   |_=>none
theorem Rm {T:List aJ} {ps:List (Nat×Nat)}:∀{os:List eM} {cK:List (Option FP)} {σ:ah} {k:ah->Option ρ} {r:ρ},pW T ps os cK σ k=some r->
  ∃(σ1:ah) (fs:List (Option FP)),qq (de T) (os.map eM.er) cK σ.er=some (fs,σ1.er)/\vR ps fs=true/\k σ1=some r
 |[],cK,σ,k,r,h=>⟨σ,cK,rfl,(bX h).1,(bX h).2⟩
 |o::os,cK,σ,k,r,h=>by
  obtain⟨d,op,g⟩:=o
  have run:∀je:ah,je.er=σ.er->eg (de T) (eM.er ⟨d,op,g⟩) σ.er=aE (de T) d op.er σ.er->dI T d op je (fun σ1=>pW T ps os (cK++[(eM.er ⟨d,op,g⟩).fp je.er]) σ1 k)=some r->
    ∃(σ1:ah) (fs:List (Option FP)),qq (de T) ((⟨d,op,g⟩::os).map eM.er) cK σ.er=some (fs,σ1.er)/\vR ps fs=true/\k σ1=some r:=by
   intro je h0 he hs
   obtain⟨σ1,h1,h2⟩:=YZ hs
   obtain⟨σ2,fs,h3,h4⟩:=Rm h2
   rw[h0] at h1 h3
   exact⟨σ2,fs,by simp only[List.map_cons,qq,he,h1,h3],h4⟩
  have yC:∀je:ah,je.er=σ.er->eg (de T) (eM.er ⟨d,op,g⟩) σ.er=some (σ.er.put d (.bn []))->pW T ps os (cK++[(eM.er ⟨d,op,g⟩).fp je.er]) (je.put d (.bn [])) k=some r->
    ∃(σ1:ah) (fs:List (Option FP)),qq (de T) ((⟨d,op,g⟩::os).map eM.er) cK σ.er=some (fs,σ1.er)/\vR ps fs=true/\k σ1=some r:=by
   intro je h0 he hs
   obtain⟨σ2,fs,h3,h4⟩:=Rm hs
   rw[ah.di,h0] at h3
   exact⟨σ2,fs,by simp only[List.map_cons,qq,he];exact h3,h4⟩
  cases g with
  |none=>exact run σ rfl rfl h
  |some g=>
   obtain⟨s,ka⟩:=g
   simp only[pW] at h
   split at h
   ·rename_i b hs
    have jp:σ.er.env s=.one (.c (.bool b)):=by show(σ.env s).er=_;rw[hs];rfl
    cases hb:(b:Bool) with
    |true=>
     have h0:(σ.lit s true).er=σ.er:=ah.Ck (by rw[hs,hb])
     rw[hb] at h
     simp only[zq] at h
     cases ka with
     |true=>exact run _ h0 (by simp[eg,eM.er,jp,hb]) h
     |false=>exact yC _ h0 (by simp[eg,eM.er,jp,hb]) h
    |false=>
     have h0:(σ.lit s false).er=σ.er:=ah.Ck (by rw[hs,hb])
     rw[hb] at h
     simp only[zp] at h
     cases ka with
     |true=>exact yC _ h0 (by simp[eg,eM.er,jp,hb]) h
     |false=>exact run _ h0 (by simp[eg,eM.er,jp,hb]) h
   ·rename_i hs
    have jp:σ.er.env s=.bn []:=by show(σ.env s).er=_;rw[hs];rfl
    exact yC σ rfl (by simp[eg,eM.er,jp]) h
   ·cases h
end
end Go.Am
