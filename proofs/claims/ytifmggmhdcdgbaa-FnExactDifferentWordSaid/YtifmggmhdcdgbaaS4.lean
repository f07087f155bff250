/- S4: operations of the typed evaluator. No condition. -/
import Derived.Test.YtifmggmhdcdgbaaS3
set_option linter.unusedVariables false
namespace Go.Am
theorem ajB {α β:Type} (f:α->β) {l:List α} {i:Nat} {e:α} (h:l[i]? =some e):(l.map f)[i]? =some (f e):=by rw[List.getElem?_map,h];rfl
section
variable {ρ:Type}
def JS:Bool->Mode
 |true=>.aa
 |false=>.aE
theorem alS (o:Bool):(if o=true then Mode.aa else .aE)=JS o:=by cases o<;>rfl
def JQ (σ:af) (d:Int) (o:Option cl):Option Int:=
 match o with
 |none=>some d
 |some q=>(σ.ev q).cN
theorem JR {σ:af} {d l:Int} {o:Option cl} (h:JQ σ d o=some l):(match o.map cl.er with|none=>some d|some q=>(σ.er.ev q).cN)=some l:=by
 cases o with
 |none=>exact h
 |some q=>simp only[Option.map_some,af.cT];exact SV.yt h
def s8 (bE:Bool) (n:Int) (c:SC):List SC:=match bE with
 |true=>[.v (.int .i64) n,.v (.int .i64) (1:Int),c]
 |false=>[.v (.int .i64) (1:Int),.v (.int .i64) n,c]
theorem T5 (bE:Bool) (n:Int) (c:SC):(s8 bE n c).map SC.er=kz bE n c.er:=by cases bE<;>rfl
def yT:List SC->Option (List TD)
 |[]=>some []
 |.v t x::l=>match t.dR with
  |true=>match yT l with
   |some ds=>some (⟨t,x⟩::ds)
   |none=>none
  |false=>none
 |_::_=>none
theorem aaJ:∀{vs:List SC} {ds:List TD},yT vs=some ds->kN (vs.map SC.er)=some (bV ds)
 |[],ds,h=>by simp only[yT] at h;injection h with h;subst h;rfl
 |c::vs,ds,h=>by
  cases c with
  |v t x=>
   simp only[yT] at h
   split at h
   ·rename_i hs
    split at h
    ·rename_i l hl
     injection h with h
     subst h
     simp only[List.map_cons,SC.er,kN,Ty.wM,hs,if_true,aaJ hl,bV,Option.map_some]
    ·cases h
   ·cases h
  |_=>simp[yT] at h
def T7 (us:List Ty) (e:Ty.DL us) (off s i:Nat) (vs:List SC) (k:Ty.DL us->Option ρ):Option ρ:=
 match(Ty.gv us e)[off]? with
 |some ⟨.list ts,ys⟩=>ct ts.length s (ct vs.length s (ef (Ty.eO ts) ((db (α:=Ty.DL ts) ys i).U fun _=>match yT vs with
  |some ds=>match pS ts ds with
   |some el=>match Ke us e off ⟨.list ts,cb (α:=Ty.DL ts) ys i el⟩ with
    |some e'=>k e'
    |none=>none
   |none=>none
  |none=>none)))
 |_=>none
theorem anv {us ts:List Ty} {xs:List (Ty.DL us)} {kk off i:Nat} {e e':Ty.DL us} {vs:List SC} {ds:List TD} {el y0:Ty.DL ts} (ys:List (Ty.DL ts)) (he:xs[kk]? =some e) (hd:(Ty.gv us e)[off]? =some ⟨.list ts,ys⟩)
  (g8:vs.length=ts.length) (hs:Ty.eO ts=true) (hy:ys[i]? =some y0) (mD:yT vs=some ds) (mF:pS ts ds=some el) (yf:Ke us e off ⟨.list ts,cb ys i el⟩=some e'):
  uD (List.map (Ty.aF us) xs) kk off ts.length i (vs.map SC.er)=some (List.map (Ty.aF us) (cb xs kk e')):=by
 have mG:(Ty.aF us e)[off]? =some (.list ts.length (List.map (Ty.aF ts) ys)):=Me hd
 have hx:(List.map (Ty.aF us) xs)[kk]? =some (Ty.aF us e):=by rw[List.getElem?_map,he];rfl
 have hi:i<(List.map (Ty.aF ts) ys).length:=by rw[List.length_map];exact(List.getElem?_eq_some_iff.1 hy).1
 have XE:Ty.aF us e'=(Ty.aF us e).set off (.list ts.length (List.map (Ty.aF ts) (cb ys i el))):=aaM yf
 unfold uD
 rw[hx,Option.bind_some,mG]
 simp only
 rw[if_pos ⟨trivial,by simpa using g8,hi,yS ts ys hs⟩,aaJ mD,List.getD_eq_getElem?_getD,hx]
 simp only[Option.map_some,Option.getD_some]
 unfold cb at XE⊢
 rw[List.map_set,XE,List.map_set,ww mF]
theorem anR {us:List Ty} {xs:List (Ty.DL us)} {kk:Nat} {e:Ty.DL us} {off s i:Nat} {vs:List SC} {k:Ty.DL us->Option ρ} {r:ρ} (he:xs[kk]? =some e) (h:T7 us e off s i vs k=some r):
  ∃e',uD (List.map (Ty.aF us) xs) kk off s i (vs.map SC.er)=some (List.map (Ty.aF us) (cb xs kk e'))/\k e'=some r:=by
 unfold T7 at h
 split at h
 ·rename_i ts ys hd
  have vz:=(ba h).1;replace h:=(ba h).2
  have tK:=(ba h).1;replace h:=(ba h).2
  have hs:=(bQ h).1;replace h:=(bQ h).2
  rw[eC] at h
  obtain⟨y0,hy,h⟩:=h
  split at h
  ·rename_i ds mD
   split at h
   ·rename_i el mF
    split at h
    ·rename_i e' yf
     subst vz
     exact⟨e',anv ys he hd tK hs hy mD mF yf,h⟩
    ·cases h
   ·cases h
  ·cases h
 ·cases h
def dD (T:List aG) (d:Option Nat) (op:cm) (σ:af) (k:af->Option ρ):Option ρ:=
 match op with
 |.mv x=>k (σ.put d (σ.ev x))
 |.pick c x y=>match σ.ev c with
  |.one (.v .bool b)=>match σ.ev x,σ.ev y with
   |.one (.v t x'),.one (.v u y')=>match Ty.cast u t y' with
    |some z=>k (σ.put d (.one (.v t (aw b x' z))))
    |none=>aw b (k (σ.put d (σ.ev x))) (k (σ.put d (σ.ev y)))
   |_,_=>aw b (k (σ.put d (σ.ev x))) (k (σ.put d (σ.ev y)))
  |_=>none
 |.alloc zs=>match d with
  |some n=>match σ.ins n (.box zs) with
   |some σ1=>k (σ1.put d (.one (.ptr n 0 0 0)))
   |none=>none
  |none=>none
 |.box sz x=>match d,(σ.ev x).cells? with
  |some n,some (_,cs)=>ct cs.length sz (match σ.ins n (.box cs) with
   |some σ1=>k (σ1.put d (.one (.ptr n 0 0 0)))
   |none=>none)
  |_,_=>none
 |.build zs parts=>match EX σ.ev zs parts with
  |some cs=>k (σ.put d (.agg cs))
  |none=>none
 |.dT ts parts=>match d with
  |some n=>Ku ts σ (parts.map σ.ev) fun es o σ1=>match σ1.ins n (.row true (JS o) ts es) with
   |some σ2=>k (σ2.put d (.one (.sl n ts.length 0 es.length)))
   |none=>none
  |none=>none
 |.load ag sz x=>match σ.ev x with
  |.one p=>EN σ.h p sz fun cs=>k (σ.put d (y9 ag cs))
  |_=>none
 |.lV ag sz x=>match σ.ev x with
  |.one p=>TH σ p fun σ1=>EN σ1.h p sz fun cs=>k (σ1.put d (y9 ag cs))
  |_=>none
 |.store sz x v=>match σ.ev x,(σ.ev v).cells? with
  |.one (.ptr n kk ax off),some (_,vs)=>ct vs.length sz (match σ.h n with
   |some (.box cs)=>ct kk 0 (ef (Nat.ble (off+sz) cs.length) (k (σ.cX n (.box (bP cs off vs)))))
   |some (.row gr m ts xs)=>ct ax ts.length ((db xs kk).U fun e=>T8 σ n gr m ts xs kk off e vs k)
   |none=>none)
  |.one (.cr n kk ax off s i),some (_,vs)=>ct vs.length sz (match σ.h n with
   |some (.row gr .live us xs)=>ct ax us.length ((db xs kk).U fun e=>T7 us e off s i vs fun e'=>k (σ.cX n (.row gr .live us (cb xs kk e'))))
   |_=>none)
  |_,_=>none
 |.nM x=>match σ.ev x with
  |.one (.ptr n kk sz off)=>ef (σ.h n).isSome (k (σ.put d (.one (.ptr n kk sz off))))
  |.one (.bT ts x off)=>k (σ.put d (.one (.bT ts x off)))
  |_=>none
 |.bin op x y=>LJ op (σ.ev x) (σ.ev y) fun t z=>k (σ.put d (.one (.v t z)))
 |.lz op x y=>LI op (σ.ev x) (σ.ev y) fun t z=>k (σ.put d (.one (.v t z)))
 |.un op x=>Uw op (σ.ev x) fun t z=>k (σ.put d (.one (.v t z)))
 |.conv kd x=>match σ.ev x with
  |.one (.v (.int _) n)=>k (σ.put d (.one (.v (.int kd) (ac4 kd n))))
  |_=>none
 |.ld m ts by_ z l c=>match d,(σ.ev l).cN,(σ.ev c).cN with
  |some n,some a,some b=>(wz a b by_).U fun len=>match σ.ins n (.row true m ts (iD len z)) with
   |some σ1=>k (σ1.put d (.one (.sl n ts.length 0 len)))
   |none=>none
  |_,_,_=>none
 |.slice sz x lo hi=>
  match σ.ev x,JQ σ 0 lo with
  |.one (.sl n s l0 len),some l=>
   match JQ σ (aM len) hi with
   |some h=>ct s sz (ef (σ.h n).isSome ((uF l h len).U fun p=>k (σ.put d (.one (.sl n s (aH l0 p.1) p.2)))))
   |none=>none
  |.one (.v (.list ts) xs),some l=>
   match JQ σ (aM (J (α:=Ty.DL ts) xs)) hi with
   |some h=>ct ts.length sz ((uF l h (J (α:=Ty.DL ts) xs)).U fun p=>k (σ.put d (.one (.v (.list ts) (s0 (α:=Ty.DL ts) xs p.1 p.2)))))
   |none=>none
  |_,_=>none
 |.tail sz x lo=>match d,σ.ev x,(σ.ev lo).cN with
  |some n,.one (.sl a s l0 len),some l=>match σ.h a with
   |some (.row true m ts xs)=>ct s ts.length (ct ts.length sz (ct l0 0 ((ab l0 len (J xs)).U fun _=>(uF l (aM (J xs)) (J xs)).U fun p=>
    match(σ.del a).ins n (.row true m ts (s0 xs p.1 p.2)) with
    |some σ1=>k (σ1.put d (.one (.sl n sz 0 p.2)))
    |none=>none)))
   |_=>none
  |_,_,_=>none
 |.ak off x=>match σ.ev x with
  |.one (.ptr n kk sz o)=>ef (σ.h n).isSome (k (σ.put d (.one (.ptr n kk sz (o+off)))))
  |.one (.bT ts x o)=>k (σ.put d (.one (.bT ts x (o+off))))
  |_=>none
 |.bO sz x i=>match σ.ev x,(σ.ev i).cN with
  |.one (.sl n s lo len),some j=>ct s sz (ef (σ.h n).isSome ((dU j len).U fun q=>k (σ.put d (.one (.ptr n (aH lo q) s 0)))))
  |.one (.v (.list ts) xs),some j=>ct ts.length sz ((dk (α:=Ty.DL ts) xs j).U fun e=>k (σ.put d (.one (.bT ts e 0))))
  |.one (.br n kk ax off s len),some j=>wU σ.h (.br n kk ax off s len) fun t x=>match t,x with
   |.list ts,ys=>ct ts.length sz ((dU j (J (α:=Ty.DL ts) ys)).U fun q=>k (σ.put d (.one (.cr n kk ax off sz q))))
   |_,_=>none
  |_,_=>none
 |.ext i x=>match σ.ev x with
  |.bj xs=>match xs[i]? with
   |some (ag,cs)=>k (σ.put d (y9 ag cs))
   |none=>none
  |_=>none
 |.mA ag off sz x=>match σ.ev x with
  |.agg cs=>match sub cs off sz with
   |some l=>k (σ.put d (y9 ag l))
   |none=>none
  |_=>none
 |.lr f bE x=>match σ.ev x with
  |.one (.sl n sz lo len)=>ef (σ.h n).isSome (k (σ.put d (.agg (s8 bE (aM len) (.sl n sz lo len)))))
  |.one (.v (.list ts) xs)=>k (σ.put d (.agg (s8 bE (aM (J (α:=Ty.DL ts) xs)) (.v (.list ts) xs))))
  |.one (.nil ts)=>k (σ.put d (.agg (s8 bE (0:Int) (.nil ts))))
  |_=>none
 |.len x=>match σ.ev x with
  |.one (.sl n sz lo len)=>ef (σ.h n).isSome (k (σ.put d (.one (.v (.int .i64) (aM len)))))
  |.one (.v (.list ts) xs)=>k (σ.put d (.one (.v (.int .i64) (aM (J (α:=Ty.DL ts) xs)))))
  |.one (.nil ts)=>k (σ.put d (.one (.v (.int .i64) (0:Int))))
  |.one (.br n kk ax off sz len)=>wU σ.h (.br n kk ax off sz len) fun t x=>match t,x with
   |.list ts,ys=>k (σ.put d (.one (.v (.int .i64) (aM (J (α:=Ty.DL ts) ys)))))
   |_,_=>none
  |_=>none
 |.append fl ts by_ x y=>match d with
  |none=>none
  |some n=>Su σ ts (σ.ev x) fun xs m σ1=>Sv fl σ1 ts m (σ.ev y) fun ys m2 σ2=>
   (iL (aH (J xs) (J ys)) by_).U fun _=>match σ2.ins n (.row true m2 ts (bY xs ys)) with
    |some f9=>k (f9.put d (.one (.sl n ts.length 0 (aH (J xs) (J ys)))))
    |none=>none
 |.mm mx x y=>match σ.ev x,σ.ev y with
  |.one (.v (.int kd) a),.one (.v (.int YK) b)=>match mx with
   |true=>k (σ.put d (.one (.v (.int kd) (PT a b))))
   |false=>k (σ.put d (.one (.v (.int kd) (PU a b))))
  |_,_=>none
 |.call m f xs=>Kd T m d f (xs.map σ.ev) σ k
 |.lA f xs=>TB T d f (xs.map σ.ev) σ k
 |.copy x y=>match σ.ev x,σ.ev y with
  |.one (.sl n s lo len),.one c=>match σ.h n with
   |some (.row gr m ts xs)=>ct s 1 (ct ts.length 1 (ef (m.own&&Ty.eO ts) (wU σ.h c fun u ys=>match u,ys with
    |.list us,ys=>match Ty.cast (.list us) (.list ts) ys with
     |some zs=>(Hf (α:=Ty.DL ts) xs lo len (List.take (α:=Ty.DL ts) len zs)).U fun au=>k ((σ.cX n (.row gr m ts au)).put d (.one (.v (.int .i64) (aM (Nat.min (J (α:=Ty.DL ts) zs) len)))))
     |none=>none
    |_,_=>none)))
   |_=>none
  |_,_=>none
 |.j7 t z x=>match σ.ev x with
  |.one (.sl n s lo len)=>match σ.h n with
   |some (.row gr m ts xs)=>ct s 1 (ef (m.own&&t.dR) (match pS ts [⟨t,z⟩] with
    |some e=>(Hf (α:=Ty.DL ts) xs lo len (iD len e)).U fun au=>k ((σ.cX n (.row gr m ts au)).put d (.bj []))
    |none=>none))
   |_=>none
  |_=>none
 |.oN f xs=>match yX (xs.map σ.ev) with
  |some cs=>k (σ.put d (.one (.fn f cs)))
  |none=>none
 |.lB m x xs=>match σ.ev x with
  |.one (.fn f bR)=>Kd T m d f (xs.map σ.ev++bR.map .one) σ k
  |_=>none
 |.eQ m f xs=>TC T m d f (xs.map σ.ev) σ k
 |.iJ f xs=>TA T d f (xs.map σ.ev) σ k
theorem CM {σ:af} {n:Nat} {b:SB} (h:σ.h n=some b):σ.er.h n=some b.er:=by simp[af.er,cD,h]
theorem zT {σ:af} {n:Nat} (h:(σ.h n).isSome=true):(σ.er.h n).isSome=true:=by
 simp only[af.er,V9,h]
theorem UA (t:Ty) (x:t.D):(SV.one (.v t x)).er=.one (.c (t.er x)):=rfl
theorem VN {ts:List Ty} {xs au ys:List (Ty.DL ts)} {lo len:Nat} (h:Hf xs lo len ys=some au):lo+len<=xs.length/\List.map (Ty.aF ts) au=bP (List.map (Ty.aF ts) xs) lo (List.map (Ty.aF ts) ys):=by
 unfold Hf at h
 split at h
 ·rename_i hc
  injection h with h
  subst h
  exact⟨hc,BT (Ty.aF ts) xs ys lo⟩
 ·cases h
theorem Ty.acH {t u:Ty} {x:t.D} {y:u.D} (h:Ty.cast t u x=some y):t.er x=u.er y:=by
 unfold Ty.cast at h
 split at h
 ·rename_i he
  have:=Ty.beq_eq he
  subst this
  injection h with h
  rw[<-h]
 ·cases h
theorem aaN {T:List aG} {d:Option Nat} {op:cm} {σ:af} {k:af->Option ρ} {r:ρ} (h:dD T d op σ k=some r):
  ∃σ1:af,aI (cY T) d op.er σ.er=some σ1.er/\k σ1=some r:=by
 cases op with
 |mv x=>exact⟨_,by simp only[cm.er,aI,af.c6,af.cT],h⟩
 |pick c x y=>
  simp only[dD] at h
  split at h
  ·rename_i b hc
   have cz:σ.er.ev c.er=.one (.c (.bool b)):=by rw[af.cT,hc];rfl
   have cq:∀σ1:af,σ1.er=σ.er.put d (cond b (σ.ev x).er (σ.ev y).er)->aI (cY T) d (cm.er (.pick c x y)) σ.er=some σ1.er:=by
    intro σ1 e
    simp only[cm.er,aI,cz,af.cT,e]
    cases b<;>rfl
   have gen:aw b (k (σ.put d (σ.ev x))) (k (σ.put d (σ.ev y)))=some r->∃σ1:af,aI (cY T) d (cm.er (.pick c x y)) σ.er=some σ1.er/\k σ1=some r:=by
    intro h
    cases hb:(b:Bool) with
    |true=>rw[hb] at h;exact⟨_,cq _ (by rw[af.c6,hb];rfl),h⟩
    |false=>rw[hb] at h;exact⟨_,cq _ (by rw[af.c6,hb];rfl),h⟩
   split at h
   ·rename_i t x' u y' ex ey
    split at h
    ·rename_i z hz
     refine⟨_,cq _ ?_,h⟩
     rw[af.c6,ex,ey,UA,UA,UA,Ty.Vq hz]
     cases (b:Bool)<;>rfl
    ·exact gen h
   ·exact gen h
  ·cases h
 |alloc zs=>
  simp only[dD] at h
  split at h
  ·rename_i n
   split at h
   ·rename_i σ1 e
    have:=af.rP e
    exact⟨_,by simp only[cm.er,aI];rw[show ar.box (zs.map SC.er)=(SB.box zs).er from rfl,this,af.c6];rfl,h⟩
   ·cases h
  ·cases h
 |box sz x=>
  simp only[dD] at h
  split at h
  ·rename_i n b cs hc
   have bk:=(ba h).1;replace h:=(ba h).2;subst bk
   split at h
   ·rename_i σ1 e
    have:=af.rP e
    refine⟨_,?_,h⟩
    simp only[cm.er,aI,af.cT,SV.lC hc,List.length_map,if_true]
    rw[show ar.box (cs.map SC.er)=(SB.box cs).er from rfl,this,af.c6];rfl
   ·cases h
  ·cases h
 |build zs parts=>
  simp only[dD] at h
  split at h
  ·rename_i cs hc
   exact⟨_,by simp only[cm.er,aI,abk hc,af.c6];rfl,h⟩
  ·cases h
 |dT ts parts=>
  simp only[dD] at h
  split at h
  ·rename_i n
   obtain⟨es,o,σ1,h1,h2⟩:=abl h
   split at h2
   ·rename_i σ2 e
    have i:=af.rP e
    refine⟨_,?_,h2⟩
    simp only[cm.er,aI,xH,h1,af.c6]
    have:(SB.row true (JS o) ts es).er=ar.row true (JS o) ts.length (List.map (Ty.aF ts) es):=rfl
    rw[alS,<-this,i,List.length_map]
    rfl
   ·cases h2
  ·cases h
 |load ag sz x=>
  simp only[dD] at h
  split at h
  ·rename_i p hp
   obtain⟨l,h1,h2⟩:=TN h
   have bc:σ.er.ev x.er=.one p.er:=by rw[af.cT,hp];rfl
   have je:loadAt σ.er.h p.er sz=some (l.map SC.er):=h1
   exact⟨_,by simp only[cm.er,aI,bc,je,af.c6,B1],h2⟩
  ·cases h
 |lV ag sz x=>
  simp only[dD] at h
  split at h
  ·rename_i p hp
   obtain⟨σ1,h0,h⟩:=anw h
   obtain⟨l,h1,h2⟩:=TN h
   have bc:σ.er.ev x.er=.one p.er:=by rw[af.cT,hp];rfl
   have je:loadAt σ1.er.h p.er sz=some (l.map SC.er):=h1
   exact⟨_,by simp only[cm.er,aI,bc,h0,je,af.c6,B1],h2⟩
  ·cases h
 |store sz x v=>
  simp only[dD] at h
  split at h
  ·rename_i n kk ax off b vs hp hc
   have bk:=(ba h).1;replace h:=(ba h).2;subst bk
   have bc:σ.er.ev x.er=.one (.ptr n kk ax off):=by rw[af.cT,hp];rfl
   have cz:(σ.er.ev v.er).cells?=some (b,vs.map SC.er):=by rw[af.cT];exact SV.lC hc
   split at h
   ·rename_i cs hn
    have bk:=(ba h).1;replace h:=(ba h).2;subst bk
    have hb:=(bQ h).1;replace h:=(bQ h).2
    have fI:=Nat.le_of_ble_eq_true hb
    refine⟨_,?_,h⟩
    simp only[cm.er,aI,bc,cz,List.length_map,if_true,CM hn,SB.er,fI,and_self,af.od,<-BT]
   ·rename_i gr m ts xs hn
    have bk:=(ba h).1;replace h:=(ba h).2;subst bk
    rw[eC] at h
    obtain⟨e,he,h⟩:=h
    replace he:xs[kk]? =some e:=he
    obtain⟨σ1,s1,s2⟩:=anS h
    refine⟨σ1,?_,s2⟩
    have mG:(List.map (Ty.aF ts) xs)[kk]? =some (Ty.aF ts e):=by rw[List.getElem?_map,he];rfl
    simp only[cm.er,aI,bc,cz,List.length_map,if_true,CM hn,SB.er,mG,s1]
   ·cases h
  ·rename_i n kk ax off s i b vs hp hc
   have bk:=(ba h).1;replace h:=(ba h).2;subst bk
   have bc:σ.er.ev x.er=.one (.cr n kk ax off s i):=by rw[af.cT,hp];rfl
   have cz:(σ.er.ev v.er).cells?=some (b,vs.map SC.er):=by rw[af.cT];exact SV.lC hc
   split at h
   ·rename_i gr us xs hn
    have bk:=(ba h).1;replace h:=(ba h).2;subst bk
    rw[eC] at h
    obtain⟨e,he,h⟩:=h
    replace he:xs[kk]? =some e:=he
    obtain⟨e',s1,s2⟩:=anR he h
    refine⟨_,?_,s2⟩
    simp only[cm.er,aI,bc,cz,List.length_map,if_true,CM hn,SB.er,s1,af.od]
   ·cases h
  ·cases h
 |nM x=>
  simp only[dD] at h
  split at h
  ·rename_i n kk sz off hp
   have hb:=(bQ h).1;replace h:=(bQ h).2
   have bc:σ.er.ev x.er=.one (.ptr n kk sz off):=by rw[af.cT,hp];rfl
   exact⟨_,by simp only[cm.er,aI,bc,zT hb,if_true,af.c6];rfl,h⟩
  ·rename_i ts y off hp
   have bc:σ.er.ev x.er=.one (.bT (Ty.aF ts y) off):=by rw[af.cT,hp];rfl
   exact⟨_,by simp only[cm.er,aI,bc,af.c6];rfl,h⟩
  ·cases h
 |bin op x y=>
  simp only[dD] at h
  obtain⟨t,z,h1,h2⟩:=acA h
  exact⟨_,by simp only[cm.er,aI,af.cT,h1,af.c6];rfl,h2⟩
 |lz op x y=>
  simp only[dD] at h
  obtain⟨t,z,h1,h2⟩:=acy h
  exact⟨_,by simp only[cm.er,aI,af.cT,h1,af.c6];rfl,h2⟩
 |un op x=>
  simp only[dD] at h
  obtain⟨t,z,h1,h2⟩:=aof h
  exact⟨_,by simp only[cm.er,aI,af.cT,h1,af.c6];rfl,h2⟩
 |conv kd x=>
  simp only[dD] at h
  split at h
  ·rename_i k' n hp
   have bc:σ.er.ev x.er=.one (.c (.int k' n)):=by rw[af.cT,hp];rfl
   exact⟨_,by simp only[cm.er,aI,bc,af.c6];rfl,h⟩
  ·cases h
 |ld m ts by_ z l c=>
  simp only[dD] at h
  split at h
  ·rename_i n a b ha hb
   rw[eC] at h
   obtain⟨len,hm,h⟩:=h
   unfold wz at hm
   split at hm
   ·rename_i cd
    injection hm with hm
    subst hm
    split at h
    ·rename_i σ1 e
     have i:=af.rP e
     have tE:(σ.er.ev l.er).cN=some a:=by rw[af.cT];exact SV.yt ha
     have aU:(σ.er.ev c.er).cN=some b:=by rw[af.cT];exact SV.yt hb
     refine⟨_,?_,h⟩
     have hz:(Ty.aF ts z).length=ts.length:=Ty.CK ts z
     have jh:(SB.row true m ts (iD a.toNat z)).er=ar.row true m ts.length (List.replicate a.toNat (Ty.aF ts z)):=by simp[SB.er,iD,List.map_replicate]
     have Nv:a<=b/\0<=a/\b.toNat*by_<=dA/\(Ty.aF ts z).length=ts.length:=⟨cd.1,cd.2.1,cd.2.2,hz⟩
     simp only[cm.er,aI,tE,aU,if_pos Nv,<-jh,i,af.c6]
     rfl
    ·cases h
   ·cases hm
  ·cases h
 |slice sz x lo hi=>
  simp only[dD] at h
  split at h
  ·rename_i n s l0 len l hp el
   have bc:σ.er.ev x.er=.one (.sl n s l0 len):=by rw[af.cT,hp];rfl
   split at h
   ·rename_i hh eh
    have bk:=(ba h).1;replace h:=(ba h).2;subst bk
    have hb:=(bQ h).1;replace h:=(bQ h).2
    rw[eC] at h
    obtain⟨p,hs,h⟩:=h
    unfold uF at hs
    split at hs
    ·rename_i cd
     injection hs with hs
     subst hs
     refine⟨_,?_,h⟩
     have tH:s=s/\0<=l/\l<=hh/\hh<=len/\(σ.er.h n).isSome=true:=⟨rfl,cd.1,cd.2.1,cd.2.2,zT hb⟩
     have e1:=JR el
     have e2:=JR eh
     rw[af.c6]
     cases lo with
     |none=>
      simp only[Option.map_none,Option.some.injEq] at e1
      subst e1
      cases hi with
      |none=>
       simp only[Option.map_none,Option.some.injEq] at e2
       subst e2
       simp only[cm.er,aI,bc,Option.map_none]
       exact if_pos ⟨trivial,tH.2⟩
      |some q=>
       simp only[Option.map_some] at e2
       simp only[cm.er,aI,bc,Option.map_none,Option.map_some,e2]
       exact if_pos ⟨trivial,tH.2⟩
     |some q0=>
      simp only[Option.map_some] at e1
      cases hi with
      |none=>
       simp only[Option.map_none,Option.some.injEq] at e2
       subst e2
       simp only[cm.er,aI,bc,Option.map_none,Option.map_some,e1]
       exact if_pos ⟨trivial,tH.2⟩
      |some q=>
       simp only[Option.map_some] at e2
       simp only[cm.er,aI,bc,Option.map_some,e1,e2]
       exact if_pos ⟨trivial,tH.2⟩
    ·cases hs
   ·cases h
  ·rename_i ts xs l hp el
   have bc:σ.er.ev x.er=.one (.c (.list ts.length (List.map (Ty.aF ts) xs))):=by rw[af.cT,hp];rfl
   split at h
   ·rename_i hh eh
    have bk:=(ba h).1;replace h:=(ba h).2;subst bk
    rw[eC] at h
    obtain⟨p,hs,h⟩:=h
    unfold uF at hs
    split at hs
    ·rename_i cd
     injection hs with hs
     subst hs
     refine⟨_,?_,h⟩
     have tH:ts.length=ts.length/\0<=l/\l<=hh/\hh<=(List.map (Ty.aF ts) xs).length:=⟨rfl,cd.1,cd.2.1,Int.le_trans cd.2.2 (Int.le_of_eq (congrArg _ (List.length_map (Ty.aF ts)).symm))⟩
     have e1:=JR el
     have e2:(match hi.map cl.er with|none=>some (((List.map (Ty.aF ts) xs).length:Nat):Int)|some q=>(σ.er.ev q).cN)=some hh:=by rw[show(List.map (Ty.aF ts) xs).length=List.length (α:=Ty.DL ts) xs from List.length_map (Ty.aF ts)];exact JR eh
     rw[af.c6]
     have NY:List.map (Ty.aF ts) (List.take (hh - l).toNat (List.drop (α:=Ty.DL ts) l.toNat xs))=((List.map (Ty.aF ts) xs).drop l.toNat).take (hh - l).toNat:=by
      rw[List.map_take]
      exact congrArg (List.take (hh - l).toNat) List.map_drop
     refine Eq.trans ?_ (congrArg (fun q=>some (σ.er.put d (ai.one (.c (.list ts.length q))))) NY.symm)
     cases lo with
     |none=>
      simp only[Option.map_none,Option.some.injEq] at e1
      subst e1
      cases hi with
      |none=>
       simp only[Option.map_none,Option.some.injEq] at e2
       subst e2
       simp only[cm.er,aI,bc,Option.map_none]
       exact if_pos ⟨trivial,tH.2⟩
      |some q=>
       simp only[Option.map_some] at e2
       simp only[cm.er,aI,bc,Option.map_none,Option.map_some,e2]
       exact if_pos ⟨trivial,tH.2⟩
     |some q0=>
      simp only[Option.map_some] at e1
      cases hi with
      |none=>
       simp only[Option.map_none,Option.some.injEq] at e2
       subst e2
       simp only[cm.er,aI,bc,Option.map_none,Option.map_some,e1]
       exact if_pos ⟨trivial,tH.2⟩
      |some q=>
       simp only[Option.map_some] at e2
       simp only[cm.er,aI,bc,Option.map_some,e1,e2]
       exact if_pos ⟨trivial,tH.2⟩
    ·cases hs
   ·cases h
  ·cases h
 |tail sz x lo=>
  simp only[dD] at h
  split at h
  ·rename_i n a0 s l0 len l hp hl
   have bc:σ.er.ev x.er=.one (.sl a0 s l0 len):=by rw[af.cT,hp];rfl
   have dm:(σ.er.ev lo.er).cN=some l:=by rw[af.cT];exact SV.yt hl
   split at h
   ·rename_i m ts xs hn
    have bk:=(ba h).1;replace h:=(ba h).2;subst bk
    have bk:=(ba h).1;replace h:=(ba h).2;subst bk
    have bk:=(ba h).1;replace h:=(ba h).2;subst bk
    rw[eC] at h
    obtain⟨_,hf,h⟩:=h
    obtain⟨_,hlen⟩:=Nh hf
    rw[eC] at h
    obtain⟨p,hs,h⟩:=h
    unfold uF at hs
    split at hs
    ·rename_i cd
     injection hs with hs
     subst hs
     simp only at h
     split at h
     ·rename_i σ1 e1
      refine⟨_,?_,h⟩
      have afG:len=xs.length:=hlen
      have Xa:0<=l/\l<=(xs.length:Int):=⟨cd.1,cd.2.1⟩
      have bh:σ.er.h a0=some (.row true m ts.length (List.map (Ty.aF ts) xs)):=by simp[af.er,cD,hn,SB.er]
      have i1:=af.rP e1
      have e2:(aM (J xs) - l).toNat=xs.length - l.toNat:=by simp only[aM,J];omega
      have e3:s0 xs l.toNat (aM (J xs) - l).toNat=xs.drop l.toNat:=by rw[e2];unfold s0;rw[List.take_of_length_le (by simp)]
      rw[e3] at i1
      simp only[SB.er,af.Hw,List.map_drop] at i1
      simp only[cm.er,aI,bc,dm,bh,List.length_map,afG,Xa.1,Xa.2,and_self,if_true,i1,af.c6,SV.er,SC.er,e2]
     ·cases h
    ·cases hs
   ·cases h
  ·cases h
 |ak off x=>
  simp only[dD] at h
  split at h
  ·rename_i n kk sz o hp
   have hb:=(bQ h).1;replace h:=(bQ h).2
   have bc:σ.er.ev x.er=.one (.ptr n kk sz o):=by rw[af.cT,hp];rfl
   exact⟨_,by simp only[cm.er,aI,bc,zT hb,if_true,af.c6];rfl,h⟩
  ·rename_i ts y o hp
   have bc:σ.er.ev x.er=.one (.bT (Ty.aF ts y) o):=by rw[af.cT,hp];rfl
   exact⟨_,by simp only[cm.er,aI,bc,af.c6];rfl,h⟩
  ·cases h
 |bO sz x i=>
  simp only[dD] at h
  split at h
  ·rename_i n s lo len j hp hi
   have bk:=(ba h).1;replace h:=(ba h).2;subst bk
   have hb:=(bQ h).1;replace h:=(bQ h).2
   rw[eC] at h
   obtain⟨q,hq,h⟩:=h
   unfold dU at hq
   split at hq
   ·rename_i cd
    injection hq with hq
    subst hq
    have bc:σ.er.ev x.er=.one (.sl n s lo len):=by rw[af.cT,hp];rfl
    have hi':(σ.er.ev i.er).cN=some j:=by rw[af.cT];exact SV.yt hi
    refine⟨_,?_,h⟩
    have Nv:s=s/\0<=j/\j<len/\(σ.er.h n).isSome=true:=⟨rfl,cd.1,cd.2,zT hb⟩
    simp only[cm.er,aI,bc,hi',af.c6]
    exact if_pos ⟨trivial,Nv.2⟩
   ·cases hq
  ·rename_i ts xs j hp hi
   have bk:=(ba h).1;replace h:=(ba h).2;subst bk
   rw[eC] at h
   obtain⟨e,he,h⟩:=h
   unfold dk at he
   split at he
   ·rename_i cd
    have bc:σ.er.ev x.er=.one (.c (.list ts.length (List.map (Ty.aF ts) xs))):=by rw[af.cT,hp];rfl
    have hi':(σ.er.ev i.er).cN=some j:=by rw[af.cT];exact SV.yt hi
    have mG:(List.map (Ty.aF ts) xs)[j.toNat]? =some (Ty.aF ts e):=ajB (Ty.aF ts) he
    refine⟨_,?_,h⟩
    simp only[cm.er,aI,bc,hi',cd,and_self,if_true,mG,af.c6]
    rfl
   ·cases he
  ·rename_i n kk ax off s len j hp hi
   obtain⟨t,y,h1,h2⟩:=B0 h
   have bc:σ.er.ev x.er=.one (.br n kk ax off s len):=by rw[af.cT,hp];rfl
   have hi':(σ.er.ev i.er).cN=some j:=by rw[af.cT];exact SV.yt hi
   have je:bM σ.er.h (.br n kk ax off s len)=some (t.er y):=h1
   split at h2
   ·rename_i ts ys
    have bk:=(ba h2).1;replace h2:=(ba h2).2;subst bk
    rw[eC] at h2
    obtain⟨q,hq,h2⟩:=h2
    unfold dU at hq
    split at hq
    ·rename_i cd
     injection hq with hq
     subst hq
     refine⟨_,?_,h2⟩
     simp only[cm.er,aI,bc,hi',je,Ty.er,af.c6]
     exact if_pos ⟨trivial,cd.1,by rw[show(List.map (Ty.aF ts) ys).length=J (α:=Ty.DL ts) ys from List.length_map (Ty.aF ts)];exact cd.2⟩
    ·cases hq
   ·cases h2
  ·cases h
 |ext i x=>
  simp only[dD] at h
  split at h
  ·rename_i xs hp
   split at h
   ·rename_i ag cs hg
    have bc:σ.er.ev x.er=.bj (xs.map fun x=>(x.1,x.2.map SC.er)):=by rw[af.cT,hp];rfl
    refine⟨_,?_,h⟩
    simp only[cm.er,aI,bc,List.getElem?_map,hg,Option.map_some,af.c6,B1]
   ·cases h
  ·cases h
 |mA ag off sz x=>
  simp only[dD] at h
  split at h
  ·rename_i cs hp
   have bc:σ.er.ev x.er=.agg (cs.map SC.er):=by rw[af.cT,hp];rfl
   split at h
   ·rename_i l hl
    exact⟨_,by simp only[cm.er,aI,bc,s9,hl,Option.map_some,af.c6,B1],h⟩
   ·cases h
  ·cases h
 |lr f bE x=>
  simp only[dD] at h
  split at h
  ·rename_i n sz lo len hp
   have hb:=(bQ h).1;replace h:=(bQ h).2
   have bc:σ.er.ev x.er=.one (.sl n sz lo len):=by rw[af.cT,hp];rfl
   refine⟨_,?_,h⟩
   simp only[cm.er,aI,bc,zT hb,if_true,af.c6]
   rw[show(SV.agg (s8 bE (aM len) (.sl n sz lo len))).er=.agg ((s8 bE (aM len) (.sl n sz lo len)).map SC.er) from rfl,T5]
   rfl
  ·rename_i ts xs hp
   have bc:σ.er.ev x.er=.one (.c (.list ts.length (List.map (α:=Ty.DL ts) (Ty.aF ts) xs))):=by rw[af.cT,hp];rfl
   refine⟨_,?_,h⟩
   simp only[cm.er,aI,bc,af.c6]
   rw[show(SV.agg (s8 bE (aM (J (α:=Ty.DL ts) xs)) (.v (.list ts) xs))).er=.agg ((s8 bE (aM (J (α:=Ty.DL ts) xs)) (.v (.list ts) xs)).map SC.er) from rfl,T5]
   congr 3
   congr 1
   exact congrArg Int.ofNat (List.length_map (as:=(xs:List (Ty.DL ts))) (Ty.aF ts))
  ·rename_i ts hp
   have bc:σ.er.ev x.er=.one (.nil ts.length):=by rw[af.cT,hp];rfl
   refine⟨_,?_,h⟩
   simp only[cm.er,aI,bc,af.c6]
   rw[show(SV.agg (s8 bE (0:Int) (.nil ts))).er=.agg ((s8 bE (0:Int) (.nil ts)).map SC.er) from rfl,T5]
   rfl
  ·cases h
 |len x=>
  simp only[dD] at h
  split at h
  ·rename_i n sz lo len hp
   have hb:=(bQ h).1;replace h:=(bQ h).2
   have bc:σ.er.ev x.er=.one (.sl n sz lo len):=by rw[af.cT,hp];rfl
   exact⟨_,by simp only[cm.er,aI,bc,zT hb,if_true,af.c6];rfl,h⟩
  ·rename_i ts xs hp
   have bc:σ.er.ev x.er=.one (.c (.list ts.length (List.map (Ty.aF ts) xs))):=by rw[af.cT,hp];rfl
   exact⟨_,by simp only[cm.er,aI,bc,af.c6];exact congrArg (fun q:Nat=>some (σ.er.put d (ai.one (.c (.int .i64 (q:Int)))))) (List.length_map (Ty.aF ts)),h⟩
  ·rename_i ts hp
   have bc:σ.er.ev x.er=.one (.nil ts.length):=by rw[af.cT,hp];rfl
   exact⟨_,by simp only[cm.er,aI,bc,af.c6];rfl,h⟩
  ·rename_i n kk ax off sz len hp
   obtain⟨t,y,h1,h2⟩:=B0 h
   have bc:σ.er.ev x.er=.one (.br n kk ax off sz len):=by rw[af.cT,hp];rfl
   have je:bM σ.er.h (.br n kk ax off sz len)=some (t.er y):=h1
   split at h2
   ·rename_i ts ys
    exact⟨_,by simp only[cm.er,aI,bc,je,Ty.er,af.c6];exact congrArg (fun q:Nat=>some (σ.er.put d (ai.one (.c (.int .i64 (q:Int)))))) (List.length_map (Ty.aF ts)),h2⟩
   ·cases h2
  ·cases h
 |append fl ts by_ x y=>
  simp only[dD] at h
  split at h
  ·cases h
  ·rename_i n
   obtain⟨xs,m,σ1,h1,h2⟩:=ani h
   obtain⟨ys,m2,σ2,h3,h4⟩:=anj h2
   rw[eC] at h4
   obtain⟨_,hf,h4⟩:=h4
   unfold iL at hf
   split at hf
   ·rename_i hb
    split at h4
    ·rename_i f9 e
     have i:=af.rP e
     refine⟨_,?_,h4⟩
     replace hb:(xs.length+ys.length)*by_<=dA:=hb
     have jh:(SB.row true m2 ts (bY xs ys)).er=ar.row true m2 ts.length (List.map (Ty.aF ts) xs++List.map (Ty.aF ts) ys):=by simp[SB.er,bY]
     simp only[cm.er,aI,af.cT,h1,h3,List.length_map,hb,if_true,<-jh,i,af.c6]
     rfl
    ·cases h4
   ·cases hf
 |mm mx x y=>
  simp only[dD] at h
  split at h
  ·rename_i kd a YK b ex ey
   have Wc:σ.er.ev x.er=.one (.c (.int kd a)):=by rw[af.cT,ex];rfl
   have Ws:σ.er.ev y.er=.one (.c (.int YK b)):=by rw[af.cT,ey];rfl
   split at h
   ·refine⟨_,?_,h⟩
    rw[af.c6]
    simp only[cm.er,aI,Wc,Ws,if_true]
    by_cases eK:LT.lt (α:=Int) a b
    ·exact(if_pos eK).trans (congrArg (fun q:Int=>some (σ.er.put d (ai.one (.c (.int kd q))))) (if_pos eK:PT a b=b).symm)
    ·exact(if_neg eK).trans (congrArg (fun q:Int=>some (σ.er.put d (ai.one (.c (.int kd q))))) (if_neg eK:PT a b=a).symm)
   ·refine⟨_,?_,h⟩
    rw[af.c6]
    simp only[cm.er,aI,Wc,Ws,Bool.false_eq_true,if_false]
    by_cases eK:LT.lt (α:=Int) b a
    ·exact(if_pos eK).trans (congrArg (fun q:Int=>some (σ.er.put d (ai.one (.c (.int kd q))))) (if_pos eK:PU a b=b).symm)
    ·exact(if_neg eK).trans (congrArg (fun q:Int=>some (σ.er.put d (ai.one (.c (.int kd q))))) (if_neg eK:PU a b=a).symm)
  ·cases h
 |call m f xs=>
  simp only[dD] at h
  obtain⟨σ1,h1,h2⟩:=aaK h
  exact⟨σ1,by simp only[cm.er,aI,xH];exact h1,h2⟩
 |copy x y=>
  simp only[dD] at h
  split at h
  ·rename_i n s lo len c hp hq
   split at h
   ·rename_i gr m ts xs hn
    have bk:=(ba h).1;replace h:=(ba h).2;subst bk
    have ht:=(ba h).1;replace h:=(ba h).2
    have hb:=(bQ h).1;replace h:=(bQ h).2
    simp only[Bool.and_eq_true] at hb
    obtain⟨u,ys,h1,h2⟩:=B0 h
    split at h2
    ·rename_i us ys
     split at h2
     ·rename_i zs hz
      rw[eC] at h2
      obtain⟨au,hc,h2⟩:=h2
      refine⟨_,?_,h2⟩
      have bc:σ.er.ev x.er=.one (.sl n 1 lo len):=by rw[af.cT,hp];rfl
      have dH:σ.er.ev y.er=.one c.er:=by rw[af.cT,hq];rfl
      have qV:Ty.er (.list us) ys=Ty.er (.list ts) zs:=by
       have:=Ty.acH hz
       exact this
      have je:bM σ.er.h c.er=some (.list ts.length (List.map (Ty.aF ts) zs)):=by
       have:bM σ.er.h c.er=some (Ty.er (.list us) ys):=h1
       rw[this,qV];rfl
      obtain⟨c1,c2⟩:=VN hc
      have gA:m≠ .aE:=by rintro rfl;exact absurd hb.1 (by simp[Mode.own])
      simp only[cm.er,aI,bc,dH,CM hn,SB.er,je]
      rw[if_pos ⟨trivial,trivial,ht,ht,gA,yS ts xs hb.2,yS ts zs hb.2,by rw[List.length_map];exact c1⟩]
      rw[af.c6,af.od]
      simp only[SB.er,c2,ht]
      rw[show List.map (Ty.aF ts) (List.take (α:=Ty.DL ts) len zs)=List.take len (List.map (Ty.aF ts) zs) from List.map_take,show(List.map (Ty.aF ts) zs).length=J (α:=Ty.DL ts) zs from List.length_map _]
      rfl
     ·cases h2
    ·cases h2
   ·cases h
  ·cases h
 |j7 t z x=>
  simp only[dD] at h
  split at h
  ·rename_i n s lo len hp
   split at h
   ·rename_i gr m ts xs hn
    have bk:=(ba h).1;replace h:=(ba h).2;subst bk
    have hb:=(bQ h).1;replace h:=(bQ h).2
    simp only[Bool.and_eq_true] at hb
    split at h
    ·rename_i e he
     rw[eC] at h
     obtain⟨au,hc,h⟩:=h
     refine⟨_,?_,h⟩
     have bc:σ.er.ev x.er=.one (.sl n 1 lo len):=by rw[af.cT,hp];rfl
     have mF:Ty.aF ts e=[t.er z]:=ww he
     have hlen:ts.length=1:=by
      have:=congrArg List.length mF
      rw[Ty.CK] at this
      exact this
     have r6:Ty.eO ts=true:=by
      have:=Ty.Ka ts e
      rw[mF] at this
      simp only[Am.eO,List.all_cons,List.all_nil,Bool.and_true,Ty.wM,hb.2] at this
      exact this.symm
     obtain⟨c1,c2⟩:=VN hc
     have gA:m≠ .aE:=by rintro rfl;exact absurd hb.1 (by simp[Mode.own])
     simp only[cm.er,aI,bc,CM hn,SB.er]
     rw[if_pos ⟨trivial,hlen,by rw[Ty.wM];exact hb.2,gA,yS ts xs r6,by rw[List.length_map];exact c1⟩]
     rw[af.c6,af.od]
     simp only[SB.er,c2,hlen,iD,List.map_replicate,mF]
     rfl
    ·cases h
   ·cases h
  ·cases h
 |lA f xs=>
  simp only[dD] at h
  obtain⟨v,h1,h2⟩:=anp h
  refine⟨_,?_,h2⟩
  simp only[cm.er,aI,xH]
  rw[h1]
  simp only[af.c6]
 |oN f xs=>
  simp only[dD] at h
  split at h
  ·rename_i cs hc
   obtain⟨h1,h2⟩:=aaY hc
   refine⟨_,?_,h⟩
   simp only[cm.er,aI,xH]
   split
   ·rename_i cs' e
    have e2:some cs'=some (cs.map SC.er):=e.symm.trans h1
    injection e2 with e2
    subst e2
    rw[if_pos h2,af.c6]
    simp only[SV.er,SC.er,SC.CN]
   ·rename_i e
    have e2:none=some (cs.map SC.er):=e.symm.trans h1
    cases e2
  ·cases h
 |eQ m f xs=>
  simp only[dD] at h
  obtain⟨σ1,h1,h2⟩:=anq h
  exact⟨σ1,by simp only[cm.er,aI,xH];exact h1,h2⟩
 |iJ f xs=>
  simp only[dD] at h
  obtain⟨σ1,h1,h2⟩:=ano h
  exact⟨σ1,by simp only[cm.er,aI,xH];exact h1,h2⟩
 |lB m x xs=>
  simp only[dD] at h
  split at h
  ·rename_i f bR hp
   have bc:σ.er.ev x.er=.one (.fn f (bR.map SC.er)):=by rw[af.cT,hp];simp only[SV.er,SC.er,SC.CN]
   obtain⟨σ1,h1,h2⟩:=aaK h
   refine⟨σ1,?_,h2⟩
   simp only[cm.er,aI,bc,xH]
   rw[List.map_append] at h1
   simp only[List.map_map] at h1⊢
   exact h1
  ·cases h
structure ez where
 dst:Option Nat
 op:cm
 guard:Option (Nat×Bool)
def ez.er (o:ez):bH:=⟨o.dst,o.op.er,o.guard⟩
def af.lit (σ:af) (n:Nat) (b:Bool):af:={σ with env:=av σ.env n (.one (.v .bool b))}
theorem af.CL {σ:af} {n:Nat} {b:Bool} (h:σ.env n=.one (.v .bool b)):(σ.lit n b).er=σ.er:=by
 have:av σ.env n (.one (.v .bool b))=σ.env:=by
  funext s
  simp only[iE]
  split
  ·rename_i hs;subst hs;exact h.symm
  ·rfl
 simp only[af.lit,this]
def qe (T:List aG):List ez->af->(af->Option ρ)->Option ρ
 |[],σ,k=>k σ
 |o::os,σ,k=>match o.guard with
  |none=>dD T o.dst o.op σ fun σ1=>qe T os σ1 k
  |some (s,jW)=>match σ.env s with
   |.one (.v .bool b)=>aw b
    (match jW with
     |true=>dD T o.dst o.op (σ.lit s true) fun σ1=>qe T os σ1 k
     |false=>qe T os ((σ.lit s true).put o.dst (.bj [])) k)
    (match jW with
     |true=>qe T os ((σ.lit s false).put o.dst (.bj [])) k
     |false=>dD T o.dst o.op (σ.lit s false) fun σ1=>qe T os σ1 k)
   |.bj []=>qe T os (σ.put o.dst (.bj [])) k
   |_=>none
theorem TF {T:List aG}:∀{os:List ez} {σ:af} {k:af->Option ρ} {r:ρ},qe T os σ k=some r->
  ∃σ1:af,ni (cY T) (os.map ez.er) σ.er=some σ1.er/\k σ1=some r
 |[],σ,k,r,h=>⟨σ,rfl,h⟩
 |o::os,σ,k,r,h=>by
  obtain⟨d,op,g⟩:=o
  have run:∀jb:af,jb.er=σ.er->d8 (cY T) (ez.er ⟨d,op,g⟩) σ.er=aI (cY T) d op.er σ.er->dD T d op jb (fun σ1=>qe T os σ1 k)=some r->
    ∃σ1:af,ni (cY T) ((⟨d,op,g⟩::os).map ez.er) σ.er=some σ1.er/\k σ1=some r:=by
   intro jb h0 he hs
   obtain⟨σ1,h1,h2⟩:=aaN hs
   obtain⟨σ2,h3,h4⟩:=TF h2
   rw[h0] at h1
   exact⟨σ2,by simp only[List.map_cons,ni,he,h1,h3],h4⟩
  have yW:∀jb:af,jb.er=σ.er->d8 (cY T) (ez.er ⟨d,op,g⟩) σ.er=some (σ.er.put d (.bj []))->qe T os (jb.put d (.bj [])) k=some r->
    ∃σ1:af,ni (cY T) ((⟨d,op,g⟩::os).map ez.er) σ.er=some σ1.er/\k σ1=some r:=by
   intro jb h0 he hs
   obtain⟨σ2,h3,h4⟩:=TF hs
   rw[af.c6,h0] at h3
   exact⟨σ2,by simp only[List.map_cons,ni,he];exact h3,h4⟩
  cases g with
  |none=>exact run σ rfl rfl h
  |some g=>
   obtain⟨s,jW⟩:=g
   simp only[qe] at h
   split at h
   ·rename_i b hs
    have ji:σ.er.env s=.one (.c (.bool b)):=by show(σ.env s).er=_;rw[hs];rfl
    cases hb:(b:Bool) with
    |true=>
     have h0:(σ.lit s true).er=σ.er:=af.CL (by rw[hs,hb])
     rw[hb] at h
     simp only[CC] at h
     cases jW with
     |true=>exact run _ h0 (by simp[d8,ez.er,ji,hb]) h
     |false=>exact yW _ h0 (by simp[d8,ez.er,ji,hb]) h
    |false=>
     have h0:(σ.lit s false).er=σ.er:=af.CL (by rw[hs,hb])
     rw[hb] at h
     simp only[Ha] at h
     cases jW with
     |true=>exact yW _ h0 (by simp[d8,ez.er,ji,hb]) h
     |false=>exact run _ h0 (by simp[d8,ez.er,ji,hb]) h
   ·rename_i hs
    have ji:σ.er.env s=.bj []:=by show(σ.env s).er=_;rw[hs];rfl
    exact yW σ rfl (by simp[d8,ez.er,ji]) h
   ·cases h
def qf (T:List aG) (ps:List (Nat×Nat)):List ez->List (Option FP)->af->(af->Option ρ)->Option ρ
 |[],cC,σ,k=>ef (wE ps cC) (k σ)
 |o::os,cC,σ,k=>match o.guard with
  |none=>dD T o.dst o.op σ fun σ1=>qf T ps os (cC++[o.er.fp σ.er]) σ1 k
  |some (s,jW)=>match σ.env s with
   |.one (.v .bool b)=>aw b
    (match jW with
     |true=>dD T o.dst o.op (σ.lit s true) fun σ1=>qf T ps os (cC++[o.er.fp (σ.lit s true).er]) σ1 k
     |false=>qf T ps os (cC++[o.er.fp (σ.lit s true).er]) ((σ.lit s true).put o.dst (.bj [])) k)
    (match jW with
     |true=>qf T ps os (cC++[o.er.fp (σ.lit s false).er]) ((σ.lit s false).put o.dst (.bj [])) k
     |false=>dD T o.dst o.op (σ.lit s false) fun σ1=>qf T ps os (cC++[o.er.fp (σ.lit s false).er]) σ1 k)
   |.bj []=>qf T ps os (cC++[o.er.fp σ.er]) (σ.put o.dst (.bj [])) k
   |_=>none
theorem TE {T:List aG} {ps:List (Nat×Nat)}:∀{os:List ez} {cC:List (Option FP)} {σ:af} {k:af->Option ρ} {r:ρ},qf T ps os cC σ k=some r->
  ∃(σ1:af) (fs:List (Option FP)),qz (cY T) (os.map ez.er) cC σ.er=some (fs,σ1.er)/\wE ps fs=true/\k σ1=some r
 |[],cC,σ,k,r,h=>⟨σ,cC,rfl,(bQ h).1,(bQ h).2⟩
 |o::os,cC,σ,k,r,h=>by
  obtain⟨d,op,g⟩:=o
  have run:∀jb:af,jb.er=σ.er->d8 (cY T) (ez.er ⟨d,op,g⟩) σ.er=aI (cY T) d op.er σ.er->dD T d op jb (fun σ1=>qf T ps os (cC++[(ez.er ⟨d,op,g⟩).fp jb.er]) σ1 k)=some r->
    ∃(σ1:af) (fs:List (Option FP)),qz (cY T) ((⟨d,op,g⟩::os).map ez.er) cC σ.er=some (fs,σ1.er)/\wE ps fs=true/\k σ1=some r:=by
   intro jb h0 he hs
   obtain⟨σ1,h1,h2⟩:=aaN hs
   obtain⟨σ2,fs,h3,h4⟩:=TE h2
   rw[h0] at h1 h3
   exact⟨σ2,fs,by simp only[List.map_cons,qz,he,h1,h3],h4⟩
  have yW:∀jb:af,jb.er=σ.er->d8 (cY T) (ez.er ⟨d,op,g⟩) σ.er=some (σ.er.put d (.bj []))->qf T ps os (cC++[(ez.er ⟨d,op,g⟩).fp jb.er]) (jb.put d (.bj [])) k=some r->
    ∃(σ1:af) (fs:List (Option FP)),qz (cY T) ((⟨d,op,g⟩::os).map ez.er) cC σ.er=some (fs,σ1.er)/\wE ps fs=true/\k σ1=some r:=by
   intro jb h0 he hs
   obtain⟨σ2,fs,h3,h4⟩:=TE hs
   rw[af.c6,h0] at h3
   exact⟨σ2,fs,by simp only[List.map_cons,qz,he];exact h3,h4⟩
  cases g with
  |none=>exact run σ rfl rfl h
  |some g=>
   obtain⟨s,jW⟩:=g
   simp only[qf] at h
   split at h
   ·rename_i b hs
    have ji:σ.er.env s=.one (.c (.bool b)):=by show(σ.env s).er=_;rw[hs];rfl
    cases hb:(b:Bool) with
    |true=>
     have h0:(σ.lit s true).er=σ.er:=af.CL (by rw[hs,hb])
     rw[hb] at h
     simp only[CC] at h
     cases jW with
     |true=>exact run _ h0 (by simp[d8,ez.er,ji,hb]) h
     |false=>exact yW _ h0 (by simp[d8,ez.er,ji,hb]) h
    |false=>
     have h0:(σ.lit s false).er=σ.er:=af.CL (by rw[hs,hb])
     rw[hb] at h
     simp only[Ha] at h
     cases jW with
     |true=>exact yW _ h0 (by simp[d8,ez.er,ji,hb]) h
     |false=>exact run _ h0 (by simp[d8,ez.er,ji,hb]) h
   ·rename_i hs
    have ji:σ.er.env s=.bj []:=by show(σ.env s).er=_;rw[hs];rfl
    exact yW σ rfl (by simp[d8,ez.er,ji]) h
   ·cases h
end
end Go.Am
