/- S4, S4c: parts of the proof. No condition. -/
import Derived.Test.YthildlkhnnogiaaS3
set_option linter.unusedVariables false
section
namespace Go.Am
theorem ahU {α β:Type} (f:α->β) {l:List α} {i:Nat} {e:α} (h:l[i]? =some e):(l.map f)[i]? =some (f e):=by rw[List.getElem?_map,h];rfl
section
variable {ρ:Type}
def J0:Bool->Mode
 |true=>.af
 |false=>.aG
theorem aj4 (o:Bool):(if o=true then Mode.af else .aG)=J0 o:=by cases o<;>rfl
def JY (σ:aa) (d:Int) (o:Option bV):Option Int:=
 match o with
 |none=>some d
 |some q=>(σ.ev q).cJ
theorem JZ {σ:aa} {d l:Int} {o:Option bV} (h:JY σ d o=some l):(match o.map bV.er with|none=>some d|some q=>(σ.er.ev q).cJ)=some l:=by
 cases o with
 |none=>exact h
 |some q=>simp only[Option.map_some,aa.cG];exact SV.xy h
def ui (bU:Bool) (n:Int) (c:SC):List SC:=match bU with
 |true=>[.v (.int .i64) n,.v (.int .i64) (1:Int),c]
 |false=>[.v (.int .i64) (1:Int),.v (.int .i64) n,c]
theorem Ud (bU:Bool) (n:Int) (c:SC):(ui bU n c).map SC.er=kI bU n c.er:=by cases bU<;>rfl
def Aa:List SC->Option (List TD)
 |[]=>some []
 |.v t x::l=>match t.dL with
  |true=>match Aa l with
   |some ds=>some (⟨t,x⟩::ds)
   |none=>none
  |false=>none
 |_::_=>none
theorem aaw:∀{vs:List SC} {ds:List TD},Aa vs=some ds->kt (vs.map SC.er)=some (cg ds)
 |[],ds,h=>by simp only[Aa] at h;injection h with h;subst h;rfl
 |c::vs,ds,h=>by
  cases c with
  |v t x=>
   simp only[Aa] at h
   split at h
   ·rename_i hs
    split at h
    ·rename_i l hl
     injection h with h
     subst h
     simp only[List.map_cons,SC.er,kt,Ty.v9,hs,if_true,aaw hl,cg,Option.map_some]
    ·cases h
   ·cases h
  |_=>simp[Aa] at h
def Uf (us:List Ty) (e:Ty.DL us) (off s i:Nat) (vs:List SC) (k:Ty.DL us->Option ρ):Option ρ:=
 match(Ty.fG us e)[off]? with
 |some ⟨.list ts,ys⟩=>bH ts.length s (bH vs.length s (da (Ty.eo ts) ((dj (α:=Ty.DL ts) ys i).U fun _=>match Aa vs with
  |some ds=>match pP ts ds with
   |some el=>match FQ us e off ⟨.list ts,cK (α:=Ty.DL ts) ys i el⟩ with
    |some e'=>k e'
    |none=>none
   |none=>none
  |none=>none)))
 |_=>none
theorem alO {us ts:List Ty} {xs:List (Ty.DL us)} {kk off i:Nat} {e e':Ty.DL us} {vs:List SC} {ds:List TD} {el y0:Ty.DL ts} (ys:List (Ty.DL ts)) (he:xs[kk]? =some e) (hd:(Ty.fG us e)[off]? =some ⟨.list ts,ys⟩)
  (gP:vs.length=ts.length) (hs:Ty.eo ts=true) (hy:ys[i]? =some y0) (iC:Aa vs=some ds) (jI:pP ts ds=some el) (vo:FQ us e off ⟨.list ts,cK ys i el⟩=some e'):
  wc (List.map (Ty.aw us) xs) kk off ts.length i (vs.map SC.er)=some (List.map (Ty.aw us) (cK xs kk e')):=by
 have gK:(Ty.aw us e)[off]? =some (.list ts.length (List.map (Ty.aw ts) ys)):=Is hd
 have hx:(List.map (Ty.aw us) xs)[kk]? =some (Ty.aw us e):=by rw[List.getElem?_map,he];rfl
 have hi:i<(List.map (Ty.aw ts) ys).length:=by rw[List.length_map];exact(List.getElem?_eq_some_iff.1 hy).1
 have XY:Ty.aw us e'=(Ty.aw us e).set off (.list ts.length (List.map (Ty.aw ts) (cK ys i el))):=TQ vo
 unfold wc
 rw[hx,Option.bind_some,gK]
 simp only
 rw[if_pos ⟨trivial,by simpa using gP,hi,sA ts ys hs⟩,aaw iC,List.getD_eq_getElem?_getD,hx]
 simp only[Option.map_some,Option.getD_some]
 unfold cK at XY⊢
 rw[List.map_set,XY,List.map_set,vP jI]
theorem amb {us:List Ty} {xs:List (Ty.DL us)} {kk:Nat} {e:Ty.DL us} {off s i:Nat} {vs:List SC} {k:Ty.DL us->Option ρ} {r:ρ} (he:xs[kk]? =some e) (h:Uf us e off s i vs k=some r):
  ∃e',wc (List.map (Ty.aw us) xs) kk off s i (vs.map SC.er)=some (List.map (Ty.aw us) (cK xs kk e'))/\k e'=some r:=by
 unfold Uf at h
 split at h
 ·rename_i ts ys hd
  have w6:=(aH h).1;replace h:=(aH h).2
  have rR:=(aH h).1;replace h:=(aH h).2
  have hs:=(bw h).1;replace h:=(bw h).2
  rw[cU] at h
  obtain⟨y0,hy,h⟩:=h
  split at h
  ·rename_i ds iC
   split at h
   ·rename_i el jI
    split at h
    ·rename_i e' vo
     subst w6
     exact⟨e',alO ys he hd rR hs hy iC jI vo,h⟩
    ·cases h
   ·cases h
  ·cases h
 ·cases h
def dM (T:List ar) (d:Option Nat) (op:cl) (σ:aa) (k:aa->Option ρ):Option ρ:=
 match op with
 |.mv x=>k (σ.put d (σ.ev x))
 |.pick c x y=>match σ.ev c with
  |.one (.v .bool b)=>match σ.ev x,σ.ev y with
   |.one (.v t x'),.one (.v u y')=>match Ty.cast u t y' with
    |some z=>k (σ.put d (.one (.v t (aL b x' z))))
    |none=>aL b (k (σ.put d (σ.ev x))) (k (σ.put d (σ.ev y)))
   |_,_=>aL b (k (σ.put d (σ.ev x))) (k (σ.put d (σ.ev y)))
  |_=>none
 |.alloc zs=>match d with
  |some n=>match σ.ins n (.box zs) with
   |some σ1=>k (σ1.put d (.one (.ptr n 0 0 0)))
   |none=>none
  |none=>none
 |.box sz x=>match d,(σ.ev x).cells? with
  |some n,some (_,cs)=>bH cs.length sz (match σ.ins n (.box cs) with
   |some σ1=>k (σ1.put d (.one (.ptr n 0 0 0)))
   |none=>none)
  |_,_=>none
 |.build zs parts=>match Gb σ.ev zs parts with
  |some cs=>k (σ.put d (.agg cs))
  |none=>none
 |.fF ts parts=>match d with
  |some n=>KM ts σ (parts.map σ.ev) fun es o σ1=>match σ1.ins n (.row true (J0 o) ts es) with
   |some σ2=>k (σ2.put d (.one (.sl n ts.length 0 es.length)))
   |none=>none
  |none=>none
 |.load ag sz x=>match σ.ev x with
  |.one p=>F0 σ.h p sz fun cs=>k (σ.put d (Ao ag cs))
  |_=>none
 |.oE ag sz x=>match σ.ev x with
  |.one p=>TS σ p fun σ1=>F0 σ1.h p sz fun cs=>k (σ1.put d (Ao ag cs))
  |_=>none
 |.store sz x v=>match σ.ev x,(σ.ev v).cells? with
  |.one (.ptr n kk au off),some (_,vs)=>bH vs.length sz (match σ.h n with
   |some (.box cs)=>bH kk 0 (da (Nat.ble (off+sz) cs.length) (k (σ.cW n (.box (ci cs off vs)))))
   |some (.row gr m ts xs)=>bH au ts.length ((dj xs kk).U fun e=>Ug σ n gr m ts xs kk off e vs k)
   |none=>none)
  |.one (.bX n kk au off s i),some (_,vs)=>bH vs.length sz (match σ.h n with
   |some (.row false .live us xs)=>bH au us.length ((dj xs kk).U fun e=>Uf us e off s i vs fun e'=>k (σ.cW n (.row false .live us (cK xs kk e'))))
   |_=>none)
  |_,_=>none
 |.oG x=>match σ.ev x with
  |.one (.ptr n kk sz off)=>da (σ.h n).isSome (k (σ.put d (.one (.ptr n kk sz off))))
  |.one (.cd ts x off)=>k (σ.put d (.one (.cd ts x off)))
  |.one (.bK ts x off j n s len)=>k (σ.put d (.one (.bK ts x off j n s len)))
  |_=>none
 |.bin op x y=>Mb op (σ.ev x) (σ.ev y) fun t z=>k (σ.put d (.one (.v t z)))
 |.oZ op x y=>Ma op (σ.ev x) (σ.ev y) fun t z=>k (σ.put d (.one (.v t z)))
 |.un op x=>UG op (σ.ev x) fun t z=>k (σ.put d (.one (.v t z)))
 |.conv kd x=>match σ.ev x with
  |.one (.v (.int _) n)=>k (σ.put d (.one (.v (.int kd) (acS kd n))))
  |_=>none
 |.lK m ts by_ z l c=>match d,(σ.ev l).cJ,(σ.ev c).cJ with
  |some n,some a,some b=>(xJ a b by_).U fun len=>match σ.ins n (.row true m ts (jg len z)) with
   |some σ1=>k (σ1.put d (.one (.sl n ts.length 0 len)))
   |none=>none
  |_,_,_=>none
 |.slice sz x lo hi=>
  match σ.ev x,JY σ 0 lo with
  |.one (.sl n s l0 len),some l=>
   match JY σ (ba len) hi with
   |some h=>bH s sz (da (σ.h n).isSome ((ye l h len).U fun p=>k (σ.put d (.one (.sl n s (aV l0 p.1) p.2)))))
   |none=>none
  |.one (.v (.list ts) xs),some l=>
   match JY σ (ba (J (α:=Ty.DL ts) xs)) hi with
   |some h=>bH ts.length sz ((ye l h (J (α:=Ty.DL ts) xs)).U fun p=>k (σ.put d (.one (.v (.list ts) (Kv (α:=Ty.DL ts) xs p.1 p.2)))))
   |none=>none
  |_,_=>none
 |.tail sz x lo=>match d,σ.ev x,(σ.ev lo).cJ with
  |some n,.one (.sl a s l0 len),some l=>match σ.h a with
   |some (.row true m ts xs)=>bH s ts.length (bH ts.length sz (bH l0 0 ((ai l0 len (J xs)).U fun _=>(ye l (ba (J xs)) (J xs)).U fun p=>
    match(σ.del a).ins n (.row true m ts (Kv xs p.1 p.2)) with
    |some σ1=>k (σ1.put d (.one (.sl n sz 0 p.2)))
    |none=>none)))
   |_=>none
  |_,_,_=>none
 |.aC off x=>match σ.ev x with
  |.one (.ptr n kk sz o)=>da (σ.h n).isSome (k (σ.put d (.one (.ptr n kk sz (o+off)))))
  |.one (.cd ts x o)=>k (σ.put d (.one (.cd ts x (o+off))))
  |.one (.bK ts x o j n s len)=>k (σ.put d (.one (.bK ts x (o+off) j n s len)))
  |_=>none
 |.cH sz x i=>match σ.ev x,(σ.ev i).cJ with
  |.one (.sl n s lo len),some j=>bH s sz (da (σ.h n).isSome ((fw j len).U fun q=>k (σ.put d (.one (.ptr n (aV lo q) s 0)))))
  |.one (.v (.list ts) xs),some j=>bH ts.length sz ((eX (α:=Ty.DL ts) xs j).U fun e=>k (σ.put d (.one (.cd ts e 0))))
  |.one (.bf n kk au off s len),some j=>wk σ.h (.bf n kk au off s len) fun t x=>match t,x with
   |.list ts,ys=>bH ts.length sz ((fw j (J (α:=Ty.DL ts) ys)).U fun q=>k (σ.put d (.one (.bX n kk au off sz q))))
   |_,_=>none
  |_,_=>none
 |.ext i x=>match σ.ev x with
  |.bk xs=>match xs[i]? with
   |some (ag,cs)=>k (σ.put d (Ao ag cs))
   |none=>none
  |_=>none
 |.n8 ag off sz x=>match σ.ev x with
  |.agg cs=>match sub cs off sz with
   |some l=>k (σ.put d (Ao ag l))
   |none=>none
  |_=>none
 |.nJ f bU x=>match σ.ev x with
  |.one (.sl n sz lo len)=>da (σ.h n).isSome (k (σ.put d (.agg (ui bU (ba len) (.sl n sz lo len)))))
  |.one (.v (.list ts) xs)=>k (σ.put d (.agg (ui bU (ba (J (α:=Ty.DL ts) xs)) (.v (.list ts) xs))))
  |.one (.nil ts)=>k (σ.put d (.agg (ui bU (0:Int) (.nil ts))))
  |_=>none
 |.len x=>match σ.ev x with
  |.one (.sl n sz lo len)=>da (σ.h n).isSome (k (σ.put d (.one (.v (.int .i64) (ba len)))))
  |.one (.v (.list ts) xs)=>k (σ.put d (.one (.v (.int .i64) (ba (J (α:=Ty.DL ts) xs)))))
  |.one (.nil ts)=>k (σ.put d (.one (.v (.int .i64) (0:Int))))
  |.one (.bf n kk au off sz len)=>wk σ.h (.bf n kk au off sz len) fun t x=>match t,x with
   |.list ts,ys=>k (σ.put d (.one (.v (.int .i64) (ba (J (α:=Ty.DL ts) ys)))))
   |_,_=>none
  |_=>none
 |.append fl ts by_ x y=>match d with
  |none=>none
  |some n=>SF σ ts (σ.ev x) fun xs m σ1=>SG fl σ1 ts m (σ.ev y) fun ys m2 σ2=>
   (lf (aV (J xs) (J ys)) by_).U fun _=>match σ2.ins n (.row true m2 ts (cY xs ys)) with
    |some fE=>k (fE.put d (.one (.sl n ts.length 0 (aV (J xs) (J ys)))))
    |none=>none
 |.mm mx x y=>match σ.ev x,σ.ev y with
  |.one (.v (.int kd) a),.one (.v (.int YI) b)=>match mx with
   |true=>k (σ.put d (.one (.v (.int kd) (PZ a b))))
   |false=>k (σ.put d (.one (.v (.int kd) (P1 a b))))
  |_,_=>none
 |.call m f xs=>Kp T m d f (xs.map σ.ev) σ k
 |.lT f xs=>TJ T d f (xs.map σ.ev) σ k
 |.copy x y=>match σ.ev x,σ.ev y with
  |.one (.sl n s lo len),.one c=>match σ.h n with
   |some (.row gr m ts xs)=>bH s 1 (bH ts.length 1 (da (m.own&&Ty.eo ts) (wk σ.h c fun u ys=>match u,ys with
    |.list us,ys=>match Ty.cast (.list us) (.list ts) ys with
     |some zs=>(Ip (α:=Ty.DL ts) xs lo len (List.take (α:=Ty.DL ts) len zs)).U fun ak=>k ((σ.cW n (.row gr m ts ak)).put d (.one (.v (.int .i64) (ba (Nat.min (J (α:=Ty.DL ts) zs) len)))))
     |none=>none
    |_,_=>none)))
   |_=>none
  |_,_=>none
 |.kq t z x=>match σ.ev x with
  |.one (.sl n s lo len)=>match σ.h n with
   |some (.row gr m ts xs)=>bH s 1 (da (m.own&&t.dL) (match pP ts [⟨t,z⟩] with
    |some e=>(Ip (α:=Ty.DL ts) xs lo len (jg len e)).U fun ak=>k ((σ.cW n (.row gr m ts ak)).put d (.bk []))
    |none=>none))
   |_=>none
  |_=>none
 |.pR f xs=>match Ae (xs.map σ.ev) with
  |some cs=>k (σ.put d (.one (.fn f cs)))
  |none=>none
 |.lV m x xs=>match σ.ev x with
  |.one (.fn f bI)=>Kp T m d f (xs.map σ.ev++bI.map .one) σ k
  |_=>none
 |.fN m f xs=>TK T m d f (xs.map σ.ev) σ k
 |.iA f xs=>TI T d f (xs.map σ.ev) σ k
 |.lW f xs=>TO T d f (xs.map σ.ev) σ k
 |.lU f xs=>TN T d f (xs.map σ.ev) σ k
 |.lY m f xs=>TP T m d f (xs.map σ.ev) σ k
 |.nX m f x xs=>match σ.ev x with
  |.one (.fn g bI)=>bH g f (TM T m d f (xs.map σ.ev++bI.map .one) σ k)
  |_=>none
theorem DZ {σ:aa} {n:Nat} {b:SB} (h:σ.h n=some b):σ.er.h n=some b.er:=by simp[aa.er,cf,h]
theorem Bx {σ:aa} {n:Nat} (h:(σ.h n).isSome=true):(σ.er.h n).isSome=true:=by
 simp only[aa.er,Wm,h]
theorem UK (t:Ty) (x:t.D):(SV.one (.v t x)).er=.one (.c (t.er x)):=rfl
theorem VZ {ts:List Ty} {xs ak ys:List (Ty.DL ts)} {lo len:Nat} (h:Ip xs lo len ys=some ak):lo+len<=xs.length/\List.map (Ty.aw ts) ak=ci (List.map (Ty.aw ts) xs) lo (List.map (Ty.aw ts) ys):=by
 unfold Ip at h
 split at h
 ·rename_i hc
  injection h with h
  subst h
  exact⟨hc,C5 (Ty.aw ts) xs ys lo⟩
 ·cases h
theorem Ty.acx {t u:Ty} {x:t.D} {y:u.D} (h:Ty.cast t u x=some y):t.er x=u.er y:=by
 unfold Ty.cast at h
 split at h
 ·rename_i he
  have:=Ty.beq_eq he
  subst this
  injection h with h
  rw[<-h]
 ·cases h
theorem aaC {T:List ar} {d:Option Nat} {op:cl} {σ:aa} {k:aa->Option ρ} {r:ρ} (h:dM T d op σ k=some r):
  ∃σ1:aa,exec (bT T) d op.er σ.er=some σ1.er/\k σ1=some r:=by
 cases op with
 |mv x=>exact⟨_,by simp only[cl.er,exec,aa.cL,aa.cG],h⟩
 |pick c x y=>
  simp only[dM] at h
  split at h
  ·rename_i b hc
   have bZ:σ.er.ev c.er=.one (.c (.bool b)):=by rw[aa.cG,hc];rfl
   have bW:∀σ1:aa,σ1.er=σ.er.put d (cond b (σ.ev x).er (σ.ev y).er)->exec (bT T) d (cl.er (.pick c x y)) σ.er=some σ1.er:=by
    intro σ1 e
    simp only[cl.er,exec,bZ,aa.cG,e]
    cases b<;>rfl
   have gen:aL b (k (σ.put d (σ.ev x))) (k (σ.put d (σ.ev y)))=some r->∃σ1:aa,exec (bT T) d (cl.er (.pick c x y)) σ.er=some σ1.er/\k σ1=some r:=by
    intro h
    cases hb:(b:Bool) with
    |true=>rw[hb] at h;exact⟨_,bW _ (by rw[aa.cL,hb];rfl),h⟩
    |false=>rw[hb] at h;exact⟨_,bW _ (by rw[aa.cL,hb];rfl),h⟩
   split at h
   ·rename_i t x' u y' ex ey
    split at h
    ·rename_i z hz
     refine⟨_,bW _ ?_,h⟩
     rw[aa.cL,ex,ey,UK,UK,UK,Ty.Mf hz]
     cases (b:Bool)<;>rfl
    ·exact gen h
   ·exact gen h
  ·cases h
 |alloc zs=>
  simp only[dM] at h
  split at h
  ·rename_i n
   split at h
   ·rename_i σ1 e
    have:=aa.m9 e
    exact⟨_,by simp only[cl.er,exec];rw[show aj.box (zs.map SC.er)=(SB.box zs).er from rfl,this,aa.cL];rfl,h⟩
   ·cases h
  ·cases h
 |box sz x=>
  simp only[dM] at h
  split at h
  ·rename_i n b cs hc
   have aQ:=(aH h).1;replace h:=(aH h).2;subst aQ
   split at h
   ·rename_i σ1 e
    have:=aa.m9 e
    refine⟨_,?_,h⟩
    simp only[cl.er,exec,aa.cG,SV.jo hc,List.length_map,if_true]
    rw[show aj.box (cs.map SC.er)=(SB.box cs).er from rfl,this,aa.cL];rfl
   ·cases h
  ·cases h
 |build zs parts=>
  simp only[dM] at h
  split at h
  ·rename_i cs hc
   exact⟨_,by simp only[cl.er,exec,abb hc,aa.cL];rfl,h⟩
  ·cases h
 |fF ts parts=>
  simp only[dM] at h
  split at h
  ·rename_i n
   obtain⟨es,o,σ1,h1,h2⟩:=abe h
   split at h2
   ·rename_i σ2 e
    have i:=aa.m9 e
    refine⟨_,?_,h2⟩
    simp only[cl.er,exec,rM,h1,aa.cL]
    have:(SB.row true (J0 o) ts es).er=aj.row true (J0 o) ts.length (List.map (Ty.aw ts) es):=rfl
    rw[aj4,<-this,i,List.length_map]
    rfl
   ·cases h2
  ·cases h
 |load ag sz x=>
  simp only[dM] at h
  split at h
  ·rename_i p hp
   obtain⟨l,h1,h2⟩:=TW h
   have be:σ.er.ev x.er=.one p.er:=by rw[aa.cG,hp];rfl
   have ii:loadAt σ.er.h p.er sz=some (l.map SC.er):=h1
   exact⟨_,by simp only[cl.er,exec,be,ii,aa.cL,Db],h2⟩
  ·cases h
 |oE ag sz x=>
  simp only[dM] at h
  split at h
  ·rename_i p hp
   obtain⟨σ1,h0,h⟩:=alQ h
   obtain⟨l,h1,h2⟩:=TW h
   have be:σ.er.ev x.er=.one p.er:=by rw[aa.cG,hp];rfl
   have ii:loadAt σ1.er.h p.er sz=some (l.map SC.er):=h1
   exact⟨_,by simp only[cl.er,exec,be,h0,ii,aa.cL,Db],h2⟩
  ·cases h
 |store sz x v=>
  simp only[dM] at h
  split at h
  ·rename_i n kk au off b vs hp hc
   have aQ:=(aH h).1;replace h:=(aH h).2;subst aQ
   have be:σ.er.ev x.er=.one (.ptr n kk au off):=by rw[aa.cG,hp];rfl
   have bZ:(σ.er.ev v.er).cells?=some (b,vs.map SC.er):=by rw[aa.cG];exact SV.jo hc
   split at h
   ·rename_i cs hn
    have aQ:=(aH h).1;replace h:=(aH h).2;subst aQ
    have hb:=(bw h).1;replace h:=(bw h).2
    have fb:=Nat.le_of_ble_eq_true hb
    refine⟨_,?_,h⟩
    simp only[cl.er,exec,be,bZ,List.length_map,if_true,DZ hn,SB.er,fb,and_self,aa.n6,<-C5]
   ·rename_i gr m ts xs hn
    have aQ:=(aH h).1;replace h:=(aH h).2;subst aQ
    rw[cU] at h
    obtain⟨e,he,h⟩:=h
    replace he:xs[kk]? =some e:=he
    obtain⟨σ1,s1,s2⟩:=amc h
    refine⟨σ1,?_,s2⟩
    have gK:(List.map (Ty.aw ts) xs)[kk]? =some (Ty.aw ts e):=by rw[List.getElem?_map,he];rfl
    simp only[cl.er,exec,be,bZ,List.length_map,if_true,DZ hn,SB.er,gK,s1]
   ·cases h
  ·rename_i n kk au off s i b vs hp hc
   have aQ:=(aH h).1;replace h:=(aH h).2;subst aQ
   have be:σ.er.ev x.er=.one (.bX n kk au off s i):=by rw[aa.cG,hp];rfl
   have bZ:(σ.er.ev v.er).cells?=some (b,vs.map SC.er):=by rw[aa.cG];exact SV.jo hc
   split at h
   ·rename_i gr us xs hn
    have aQ:=(aH h).1;replace h:=(aH h).2;subst aQ
    rw[cU] at h
    obtain⟨e,he,h⟩:=h
    replace he:xs[kk]? =some e:=he
    obtain⟨e',s1,s2⟩:=amb he h
    refine⟨_,?_,s2⟩
    simp only[cl.er,exec,be,bZ,List.length_map,if_true,DZ hn,SB.er,s1,aa.n6]
   ·cases h
  ·cases h
 |oG x=>
  simp only[dM] at h
  split at h
  ·rename_i n kk sz off hp
   have hb:=(bw h).1;replace h:=(bw h).2
   have be:σ.er.ev x.er=.one (.ptr n kk sz off):=by rw[aa.cG,hp];rfl
   exact⟨_,by simp only[cl.er,exec,be,Bx hb,if_true,aa.cL];rfl,h⟩
  ·rename_i ts y off hp
   have be:σ.er.ev x.er=.one (.cd (Ty.aw ts y) off):=by rw[aa.cG,hp];rfl
   exact⟨_,by simp only[cl.er,exec,be,aa.cL];rfl,h⟩
  ·rename_i ts y off j n s len hp
   have be:σ.er.ev x.er=.one (.bK (Ty.aw ts y) off j n s len):=by rw[aa.cG,hp];rfl
   exact⟨_,by simp only[cl.er,exec,be,aa.cL];rfl,h⟩
  ·cases h
 |bin op x y=>
  simp only[dM] at h
  obtain⟨t,z,h1,h2⟩:=acm h
  exact⟨_,by simp only[cl.er,exec,aa.cG,h1,aa.cL];rfl,h2⟩
 |oZ op x y=>
  simp only[dM] at h
  obtain⟨t,z,h1,h2⟩:=acj h
  exact⟨_,by simp only[cl.er,exec,aa.cG,h1,aa.cL];rfl,h2⟩
 |un op x=>
  simp only[dM] at h
  obtain⟨t,z,h1,h2⟩:=amD h
  exact⟨_,by simp only[cl.er,exec,aa.cG,h1,aa.cL];rfl,h2⟩
 |conv kd x=>
  simp only[dM] at h
  split at h
  ·rename_i k' n hp
   have be:σ.er.ev x.er=.one (.c (.int k' n)):=by rw[aa.cG,hp];rfl
   exact⟨_,by simp only[cl.er,exec,be,aa.cL];rfl,h⟩
  ·cases h
 |lK m ts by_ z l c=>
  simp only[dM] at h
  split at h
  ·rename_i n a b ha hb
   rw[cU] at h
   obtain⟨len,hm,h⟩:=h
   unfold xJ at hm
   split at hm
   ·rename_i bR
    injection hm with hm
    subst hm
    split at h
    ·rename_i σ1 e
     have i:=aa.m9 e
     have rQ:(σ.er.ev l.er).cJ=some a:=by rw[aa.cG];exact SV.xy ha
     have aE:(σ.er.ev c.er).cJ=some b:=by rw[aa.cG];exact SV.xy hb
     refine⟨_,?_,h⟩
     have hz:(Ty.aw ts z).length=ts.length:=Ty.Bw ts z
     have dR:(SB.row true m ts (jg a.toNat z)).er=aj.row true m ts.length (List.replicate a.toNat (Ty.aw ts z)):=by simp[SB.er,jg,List.map_replicate]
     have Ob:a<=b/\0<=a/\b.toNat*by_<=e8/\(Ty.aw ts z).length=ts.length:=⟨bR.1,bR.2.1,bR.2.2,hz⟩
     simp only[cl.er,exec,rQ,aE,if_pos Ob,<-dR,i,aa.cL]
     rfl
    ·cases h
   ·cases hm
  ·cases h
 |slice sz x lo hi=>
  simp only[dM] at h
  split at h
  ·rename_i n s l0 len l hp el
   have be:σ.er.ev x.er=.one (.sl n s l0 len):=by rw[aa.cG,hp];rfl
   split at h
   ·rename_i hh eh
    have aQ:=(aH h).1;replace h:=(aH h).2;subst aQ
    have hb:=(bw h).1;replace h:=(bw h).2
    rw[cU] at h
    obtain⟨p,hs,h⟩:=h
    unfold ye at hs
    split at hs
    ·rename_i bR
     injection hs with hs
     subst hs
     refine⟨_,?_,h⟩
     have u4:s=s/\0<=l/\l<=hh/\hh<=len/\(σ.er.h n).isSome=true:=⟨rfl,bR.1,bR.2.1,bR.2.2,Bx hb⟩
     have e1:=JZ el
     have e2:=JZ eh
     rw[aa.cL]
     cases lo with
     |none=>
      simp only[Option.map_none,Option.some.injEq] at e1
      subst e1
      cases hi with
      |none=>
       simp only[Option.map_none,Option.some.injEq] at e2
       subst e2
       simp only[cl.er,exec,be,Option.map_none]
       exact if_pos ⟨trivial,u4.2⟩
      |some q=>
       simp only[Option.map_some] at e2
       simp only[cl.er,exec,be,Option.map_none,Option.map_some,e2]
       exact if_pos ⟨trivial,u4.2⟩
     |some q0=>
      simp only[Option.map_some] at e1
      cases hi with
      |none=>
       simp only[Option.map_none,Option.some.injEq] at e2
       subst e2
       simp only[cl.er,exec,be,Option.map_none,Option.map_some,e1]
       exact if_pos ⟨trivial,u4.2⟩
      |some q=>
       simp only[Option.map_some] at e2
       simp only[cl.er,exec,be,Option.map_some,e1,e2]
       exact if_pos ⟨trivial,u4.2⟩
    ·cases hs
   ·cases h
  ·rename_i ts xs l hp el
   have be:σ.er.ev x.er=.one (.c (.list ts.length (List.map (Ty.aw ts) xs))):=by rw[aa.cG,hp];rfl
   split at h
   ·rename_i hh eh
    have aQ:=(aH h).1;replace h:=(aH h).2;subst aQ
    rw[cU] at h
    obtain⟨p,hs,h⟩:=h
    unfold ye at hs
    split at hs
    ·rename_i bR
     injection hs with hs
     subst hs
     refine⟨_,?_,h⟩
     have u4:ts.length=ts.length/\0<=l/\l<=hh/\hh<=(List.map (Ty.aw ts) xs).length:=⟨rfl,bR.1,bR.2.1,Int.le_trans bR.2.2 (Int.le_of_eq (congrArg _ (List.length_map (Ty.aw ts)).symm))⟩
     have e1:=JZ el
     have e2:(match hi.map bV.er with|none=>some (((List.map (Ty.aw ts) xs).length:Nat):Int)|some q=>(σ.er.ev q).cJ)=some hh:=by rw[show(List.map (Ty.aw ts) xs).length=List.length (α:=Ty.DL ts) xs from List.length_map (Ty.aw ts)];exact JZ eh
     rw[aa.cL]
     have Ja:List.map (Ty.aw ts) (List.take (hh - l).toNat (List.drop (α:=Ty.DL ts) l.toNat xs))=((List.map (Ty.aw ts) xs).drop l.toNat).take (hh - l).toNat:=by
      rw[List.map_take]
      exact congrArg (List.take (hh - l).toNat) List.map_drop
     refine Eq.trans ?_ (congrArg (fun q=>some (σ.er.put d (ah.one (.c (.list ts.length q))))) Ja.symm)
     cases lo with
     |none=>
      simp only[Option.map_none,Option.some.injEq] at e1
      subst e1
      cases hi with
      |none=>
       simp only[Option.map_none,Option.some.injEq] at e2
       subst e2
       simp only[cl.er,exec,be,Option.map_none]
       exact if_pos ⟨trivial,u4.2⟩
      |some q=>
       simp only[Option.map_some] at e2
       simp only[cl.er,exec,be,Option.map_none,Option.map_some,e2]
       exact if_pos ⟨trivial,u4.2⟩
     |some q0=>
      simp only[Option.map_some] at e1
      cases hi with
      |none=>
       simp only[Option.map_none,Option.some.injEq] at e2
       subst e2
       simp only[cl.er,exec,be,Option.map_none,Option.map_some,e1]
       exact if_pos ⟨trivial,u4.2⟩
      |some q=>
       simp only[Option.map_some] at e2
       simp only[cl.er,exec,be,Option.map_some,e1,e2]
       exact if_pos ⟨trivial,u4.2⟩
    ·cases hs
   ·cases h
  ·cases h
 |tail sz x lo=>
  simp only[dM] at h
  split at h
  ·rename_i n a0 s l0 len l hp hl
   have be:σ.er.ev x.er=.one (.sl a0 s l0 len):=by rw[aa.cG,hp];rfl
   have dg:(σ.er.ev lo.er).cJ=some l:=by rw[aa.cG];exact SV.xy hl
   split at h
   ·rename_i m ts xs hn
    have aQ:=(aH h).1;replace h:=(aH h).2;subst aQ
    have aQ:=(aH h).1;replace h:=(aH h).2;subst aQ
    have aQ:=(aH h).1;replace h:=(aH h).2;subst aQ
    rw[cU] at h
    obtain⟨_,hf,h⟩:=h
    obtain⟨_,hlen⟩:=IK hf
    rw[cU] at h
    obtain⟨p,hs,h⟩:=h
    unfold ye at hs
    split at hs
    ·rename_i bR
     injection hs with hs
     subst hs
     simp only at h
     split at h
     ·rename_i σ1 e1
      refine⟨_,?_,h⟩
      have BZ:len=xs.length:=hlen
      have Xx:0<=l/\l<=(xs.length:Int):=⟨bR.1,bR.2.1⟩
      have bh:σ.er.h a0=some (.row true m ts.length (List.map (Ty.aw ts) xs)):=by simp[aa.er,cf,hn,SB.er]
      have i1:=aa.m9 e1
      have e2:(ba (J xs) - l).toNat=xs.length - l.toNat:=by simp only[ba,J];omega
      have e3:Kv xs l.toNat (ba (J xs) - l).toNat=xs.drop l.toNat:=by rw[e2];unfold Kv;rw[List.take_of_length_le (by simp)]
      rw[e3] at i1
      simp only[SB.er,aa.y4,List.map_drop] at i1
      simp only[cl.er,exec,be,dg,bh,List.length_map,BZ,Xx.1,Xx.2,and_self,if_true,i1,aa.cL,SV.er,SC.er,e2]
     ·cases h
    ·cases hs
   ·cases h
  ·cases h
 |aC off x=>
  simp only[dM] at h
  split at h
  ·rename_i n kk sz o hp
   have hb:=(bw h).1;replace h:=(bw h).2
   have be:σ.er.ev x.er=.one (.ptr n kk sz o):=by rw[aa.cG,hp];rfl
   exact⟨_,by simp only[cl.er,exec,be,Bx hb,if_true,aa.cL];rfl,h⟩
  ·rename_i ts y o hp
   have be:σ.er.ev x.er=.one (.cd (Ty.aw ts y) o):=by rw[aa.cG,hp];rfl
   exact⟨_,by simp only[cl.er,exec,be,aa.cL];rfl,h⟩
  ·rename_i ts y o j n s len hp
   have be:σ.er.ev x.er=.one (.bK (Ty.aw ts y) o j n s len):=by rw[aa.cG,hp];rfl
   exact⟨_,by simp only[cl.er,exec,be,aa.cL];rfl,h⟩
  ·cases h
 |cH sz x i=>
  simp only[dM] at h
  split at h
  ·rename_i n s lo len j hp hi
   have aQ:=(aH h).1;replace h:=(aH h).2;subst aQ
   have hb:=(bw h).1;replace h:=(bw h).2
   rw[cU] at h
   obtain⟨q,hq,h⟩:=h
   unfold fw at hq
   split at hq
   ·rename_i bR
    injection hq with hq
    subst hq
    have be:σ.er.ev x.er=.one (.sl n s lo len):=by rw[aa.cG,hp];rfl
    have hi':(σ.er.ev i.er).cJ=some j:=by rw[aa.cG];exact SV.xy hi
    refine⟨_,?_,h⟩
    have Ob:s=s/\0<=j/\j<len/\(σ.er.h n).isSome=true:=⟨rfl,bR.1,bR.2,Bx hb⟩
    simp only[cl.er,exec,be,hi',aa.cL]
    exact if_pos ⟨trivial,Ob.2⟩
   ·cases hq
  ·rename_i ts xs j hp hi
   have aQ:=(aH h).1;replace h:=(aH h).2;subst aQ
   rw[cU] at h
   obtain⟨e,he,h⟩:=h
   unfold eX at he
   split at he
   ·rename_i bR
    have be:σ.er.ev x.er=.one (.c (.list ts.length (List.map (Ty.aw ts) xs))):=by rw[aa.cG,hp];rfl
    have hi':(σ.er.ev i.er).cJ=some j:=by rw[aa.cG];exact SV.xy hi
    have gK:(List.map (Ty.aw ts) xs)[j.toNat]? =some (Ty.aw ts e):=ahU (Ty.aw ts) he
    refine⟨_,?_,h⟩
    simp only[cl.er,exec,be,hi',bR,and_self,if_true,gK,aa.cL]
    rfl
   ·cases he
  ·rename_i n kk au off s len j hp hi
   obtain⟨t,y,h1,h2⟩:=Al h
   have be:σ.er.ev x.er=.one (.bf n kk au off s len):=by rw[aa.cG,hp];rfl
   have hi':(σ.er.ev i.er).cJ=some j:=by rw[aa.cG];exact SV.xy hi
   have ii:bQ σ.er.h (.bf n kk au off s len)=some (t.er y):=h1
   split at h2
   ·rename_i ts ys
    have aQ:=(aH h2).1;replace h2:=(aH h2).2;subst aQ
    rw[cU] at h2
    obtain⟨q,hq,h2⟩:=h2
    unfold fw at hq
    split at hq
    ·rename_i bR
     injection hq with hq
     subst hq
     refine⟨_,?_,h2⟩
     simp only[cl.er,exec,be,hi',ii,Ty.er,aa.cL]
     exact if_pos ⟨trivial,bR.1,by rw[show(List.map (Ty.aw ts) ys).length=J (α:=Ty.DL ts) ys from List.length_map (Ty.aw ts)];exact bR.2⟩
    ·cases hq
   ·cases h2
  ·cases h
 |ext i x=>
  simp only[dM] at h
  split at h
  ·rename_i xs hp
   split at h
   ·rename_i ag cs hg
    have be:σ.er.ev x.er=.bk (xs.map fun x=>(x.1,x.2.map SC.er)):=by rw[aa.cG,hp];rfl
    refine⟨_,?_,h⟩
    simp only[cl.er,exec,be,List.getElem?_map,hg,Option.map_some,aa.cL,Db]
   ·cases h
  ·cases h
 |n8 ag off sz x=>
  simp only[dM] at h
  split at h
  ·rename_i cs hp
   have be:σ.er.ev x.er=.agg (cs.map SC.er):=by rw[aa.cG,hp];rfl
   split at h
   ·rename_i l hl
    exact⟨_,by simp only[cl.er,exec,be,rp,hl,Option.map_some,aa.cL,Db],h⟩
   ·cases h
  ·cases h
 |nJ f bU x=>
  simp only[dM] at h
  split at h
  ·rename_i n sz lo len hp
   have hb:=(bw h).1;replace h:=(bw h).2
   have be:σ.er.ev x.er=.one (.sl n sz lo len):=by rw[aa.cG,hp];rfl
   refine⟨_,?_,h⟩
   simp only[cl.er,exec,be,Bx hb,if_true,aa.cL]
   rw[show(SV.agg (ui bU (ba len) (.sl n sz lo len))).er=.agg ((ui bU (ba len) (.sl n sz lo len)).map SC.er) from rfl,Ud]
   rfl
  ·rename_i ts xs hp
   have be:σ.er.ev x.er=.one (.c (.list ts.length (List.map (α:=Ty.DL ts) (Ty.aw ts) xs))):=by rw[aa.cG,hp];rfl
   refine⟨_,?_,h⟩
   simp only[cl.er,exec,be,aa.cL]
   rw[show(SV.agg (ui bU (ba (J (α:=Ty.DL ts) xs)) (.v (.list ts) xs))).er=.agg ((ui bU (ba (J (α:=Ty.DL ts) xs)) (.v (.list ts) xs)).map SC.er) from rfl,Ud]
   congr 3
   congr 1
   exact congrArg Int.ofNat (List.length_map (as:=(xs:List (Ty.DL ts))) (Ty.aw ts))
  ·rename_i ts hp
   have be:σ.er.ev x.er=.one (.nil ts.length):=by rw[aa.cG,hp];rfl
   refine⟨_,?_,h⟩
   simp only[cl.er,exec,be,aa.cL]
   rw[show(SV.agg (ui bU (0:Int) (.nil ts))).er=.agg ((ui bU (0:Int) (.nil ts)).map SC.er) from rfl,Ud]
   rfl
  ·cases h
 |len x=>
  simp only[dM] at h
  split at h
  ·rename_i n sz lo len hp
   have hb:=(bw h).1;replace h:=(bw h).2
   have be:σ.er.ev x.er=.one (.sl n sz lo len):=by rw[aa.cG,hp];rfl
   exact⟨_,by simp only[cl.er,exec,be,Bx hb,if_true,aa.cL];rfl,h⟩
  ·rename_i ts xs hp
   have be:σ.er.ev x.er=.one (.c (.list ts.length (List.map (Ty.aw ts) xs))):=by rw[aa.cG,hp];rfl
   exact⟨_,by simp only[cl.er,exec,be,aa.cL];exact congrArg (fun q:Nat=>some (σ.er.put d (ah.one (.c (.int .i64 (q:Int)))))) (List.length_map (Ty.aw ts)),h⟩
  ·rename_i ts hp
   have be:σ.er.ev x.er=.one (.nil ts.length):=by rw[aa.cG,hp];rfl
   exact⟨_,by simp only[cl.er,exec,be,aa.cL];rfl,h⟩
  ·rename_i n kk au off sz len hp
   obtain⟨t,y,h1,h2⟩:=Al h
   have be:σ.er.ev x.er=.one (.bf n kk au off sz len):=by rw[aa.cG,hp];rfl
   have ii:bQ σ.er.h (.bf n kk au off sz len)=some (t.er y):=h1
   split at h2
   ·rename_i ts ys
    exact⟨_,by simp only[cl.er,exec,be,ii,Ty.er,aa.cL];exact congrArg (fun q:Nat=>some (σ.er.put d (ah.one (.c (.int .i64 (q:Int)))))) (List.length_map (Ty.aw ts)),h2⟩
   ·cases h2
  ·cases h
 |append fl ts by_ x y=>
  simp only[dM] at h
  split at h
  ·cases h
  ·rename_i n
   obtain⟨xs,m,σ1,h1,h2⟩:=alw h
   obtain⟨ys,m2,σ2,h3,h4⟩:=alx h2
   rw[cU] at h4
   obtain⟨_,hf,h4⟩:=h4
   unfold lf at hf
   split at hf
   ·rename_i hb
    split at h4
    ·rename_i fE e
     have i:=aa.m9 e
     refine⟨_,?_,h4⟩
     replace hb:(xs.length+ys.length)*by_<=e8:=hb
     have dR:(SB.row true m2 ts (cY xs ys)).er=aj.row true m2 ts.length (List.map (Ty.aw ts) xs++List.map (Ty.aw ts) ys):=by simp[SB.er,cY]
     simp only[cl.er,exec,aa.cG,h1,h3,List.length_map,hb,if_true,<-dR,i,aa.cL]
     rfl
    ·cases h4
   ·cases hf
 |mm mx x y=>
  simp only[dM] at h
  split at h
  ·rename_i kd a YI b ex ey
   have Wp:σ.er.ev x.er=.one (.c (.int kd a)):=by rw[aa.cG,ex];rfl
   have WG:σ.er.ev y.er=.one (.c (.int YI b)):=by rw[aa.cG,ey];rfl
   split at h
   ·refine⟨_,?_,h⟩
    rw[aa.cL]
    simp only[cl.er,exec,Wp,WG,if_true]
    by_cases fm:LT.lt (α:=Int) a b
    ·exact(if_pos fm).trans (congrArg (fun q:Int=>some (σ.er.put d (ah.one (.c (.int kd q))))) (if_pos fm:PZ a b=b).symm)
    ·exact(if_neg fm).trans (congrArg (fun q:Int=>some (σ.er.put d (ah.one (.c (.int kd q))))) (if_neg fm:PZ a b=a).symm)
   ·refine⟨_,?_,h⟩
    rw[aa.cL]
    simp only[cl.er,exec,Wp,WG,Bool.false_eq_true,if_false]
    by_cases fm:LT.lt (α:=Int) b a
    ·exact(if_pos fm).trans (congrArg (fun q:Int=>some (σ.er.put d (ah.one (.c (.int kd q))))) (if_pos fm:P1 a b=b).symm)
    ·exact(if_neg fm).trans (congrArg (fun q:Int=>some (σ.er.put d (ah.one (.c (.int kd q))))) (if_neg fm:P1 a b=a).symm)
  ·cases h
 |call m f xs=>
  simp only[dM] at h
  obtain⟨σ1,h1,h2⟩:=aax h
  exact⟨σ1,by simp only[cl.er,exec,rM];exact h1,h2⟩
 |copy x y=>
  simp only[dM] at h
  split at h
  ·rename_i n s lo len c hp hq
   split at h
   ·rename_i gr m ts xs hn
    have aQ:=(aH h).1;replace h:=(aH h).2;subst aQ
    have ht:=(aH h).1;replace h:=(aH h).2
    have hb:=(bw h).1;replace h:=(bw h).2
    simp only[Bool.and_eq_true] at hb
    obtain⟨u,ys,h1,h2⟩:=Al h
    split at h2
    ·rename_i us ys
     split at h2
     ·rename_i zs hz
      rw[cU] at h2
      obtain⟨ak,hc,h2⟩:=h2
      refine⟨_,?_,h2⟩
      have be:σ.er.ev x.er=.one (.sl n 1 lo len):=by rw[aa.cG,hp];rfl
      have db:σ.er.ev y.er=.one c.er:=by rw[aa.cG,hq];rfl
      have pA:Ty.er (.list us) ys=Ty.er (.list ts) zs:=by
       have:=Ty.acx hz
       exact this
      have ii:bQ σ.er.h c.er=some (.list ts.length (List.map (Ty.aw ts) zs)):=by
       have:bQ σ.er.h c.er=some (Ty.er (.list us) ys):=h1
       rw[this,pA];rfl
      obtain⟨c1,c2⟩:=VZ hc
      have gi:m≠ .aG:=by rintro rfl;exact absurd hb.1 (by simp[Mode.own])
      simp only[cl.er,exec,be,db,DZ hn,SB.er,ii]
      rw[if_pos ⟨trivial,trivial,ht,ht,gi,sA ts xs hb.2,sA ts zs hb.2,by rw[List.length_map];exact c1⟩]
      rw[aa.cL,aa.n6]
      simp only[SB.er,c2,ht]
      rw[show List.map (Ty.aw ts) (List.take (α:=Ty.DL ts) len zs)=List.take len (List.map (Ty.aw ts) zs) from List.map_take,show(List.map (Ty.aw ts) zs).length=J (α:=Ty.DL ts) zs from List.length_map _]
      rfl
     ·cases h2
    ·cases h2
   ·cases h
  ·cases h
 |kq t z x=>
  simp only[dM] at h
  split at h
  ·rename_i n s lo len hp
   split at h
   ·rename_i gr m ts xs hn
    have aQ:=(aH h).1;replace h:=(aH h).2;subst aQ
    have hb:=(bw h).1;replace h:=(bw h).2
    simp only[Bool.and_eq_true] at hb
    split at h
    ·rename_i e he
     rw[cU] at h
     obtain⟨ak,hc,h⟩:=h
     refine⟨_,?_,h⟩
     have be:σ.er.ev x.er=.one (.sl n 1 lo len):=by rw[aa.cG,hp];rfl
     have jI:Ty.aw ts e=[t.er z]:=vP he
     have hlen:ts.length=1:=by
      have:=congrArg List.length jI
      rw[Ty.Bw] at this
      exact this
     have gO:Ty.eo ts=true:=by
      have:=Ty.FM ts e
      rw[jI] at this
      simp only[Am.eo,List.all_cons,List.all_nil,Bool.and_true,Ty.v9,hb.2] at this
      exact this.symm
     obtain⟨c1,c2⟩:=VZ hc
     have gi:m≠ .aG:=by rintro rfl;exact absurd hb.1 (by simp[Mode.own])
     simp only[cl.er,exec,be,DZ hn,SB.er]
     rw[if_pos ⟨trivial,hlen,by rw[Ty.v9];exact hb.2,gi,sA ts xs gO,by rw[List.length_map];exact c1⟩]
     rw[aa.cL,aa.n6]
     simp only[SB.er,c2,hlen,jg,List.map_replicate,jI]
     rfl
    ·cases h
   ·cases h
  ·cases h
 |lT f xs=>
  simp only[dM] at h
  obtain⟨v,h1,h2⟩:=alF h
  refine⟨_,?_,h2⟩
  simp only[cl.er,exec,rM]
  rw[h1]
  simp only[aa.cL]
 |pR f xs=>
  simp only[dM] at h
  split at h
  ·rename_i cs hc
   obtain⟨h1,h2⟩:=aaM hc
   refine⟨_,?_,h⟩
   simp only[cl.er,exec,rM]
   split
   ·rename_i cs' e
    have e2:some cs'=some (cs.map SC.er):=e.symm.trans h1
    injection e2 with e2
    subst e2
    rw[if_pos h2,aa.cL]
    simp only[SV.er,SC.er,SC.y5]
   ·rename_i e
    have e2:none=some (cs.map SC.er):=e.symm.trans h1
    cases e2
  ·cases h
 |fN m f xs=>
  simp only[dM] at h
  obtain⟨σ1,h1,h2⟩:=alG h
  exact⟨σ1,by simp only[cl.er,exec,rM];exact h1,h2⟩
 |iA f xs=>
  simp only[dM] at h
  obtain⟨σ1,h1,h2⟩:=alE h
  exact⟨σ1,by simp only[cl.er,exec,rM];exact h1,h2⟩
 |lU f xs=>
  simp only[dM] at h
  obtain⟨v,h1,h2⟩:=alJ h
  exact⟨σ.put d v,by simp only[cl.er,exec,rM,h1,aa.cL],h2⟩
 |lY m f xs=>
  simp only[dM] at h
  obtain⟨σ1,h1,h2⟩:=alL h
  exact⟨σ1,by simp only[cl.er,exec,rM];exact h1,h2⟩
 |nX m f x xs=>
  simp only[dM] at h
  split at h
  ·rename_i g bI hp
   have aQ:=(aH h).1;replace h:=(aH h).2;subst aQ
   have be:σ.er.ev x.er=.one (.fn g (bI.map SC.er)):=by rw[aa.cG,hp];simp only[SV.er,SC.er,SC.y5]
   obtain⟨σ1,h1,h2⟩:=alI h
   refine⟨σ1,?_,h2⟩
   simp only[cl.er,exec,be,rM,if_true]
   rw[List.map_append] at h1
   simp only[List.map_map] at h1⊢
   exact h1
  ·cases h
 |lW f xs=>
  simp only[dM] at h
  obtain⟨v,h1,h2⟩:=alK h
  exact⟨σ.put d v,by simp only[cl.er,exec,rM,h1,aa.cL],h2⟩
 |lV m x xs=>
  simp only[dM] at h
  split at h
  ·rename_i f bI hp
   have be:σ.er.ev x.er=.one (.fn f (bI.map SC.er)):=by rw[aa.cG,hp];simp only[SV.er,SC.er,SC.y5]
   obtain⟨σ1,h1,h2⟩:=aax h
   refine⟨σ1,?_,h2⟩
   simp only[cl.er,exec,be,rM]
   rw[List.map_append] at h1
   simp only[List.map_map] at h1⊢
   exact h1
  ·cases h
structure ez where
 dst:Option Nat
 op:cl
 guard:Option (Nat×Bool)
def ez.er (o:ez):bq:=⟨o.dst,o.op.er,o.guard⟩
def aa.lit (σ:aa) (n:Nat) (b:Bool):aa:={σ with env:=ao σ.env n (.one (.v .bool b))}
theorem aa.DY {σ:aa} {n:Nat} {b:Bool} (h:σ.env n=.one (.v .bool b)):(σ.lit n b).er=σ.er:=by
 have:ao σ.env n (.one (.v .bool b))=σ.env:=by
  funext s
  simp only[iU]
  split
  ·rename_i hs;subst hs;exact h.symm
  ·rfl
 simp only[aa.lit,this]
def nK (T:List ar):List ez->aa->(aa->Option ρ)->Option ρ
 |[],σ,k=>k σ
 |o::os,σ,k=>match o.guard with
  |none=>dM T o.dst o.op σ fun σ1=>nK T os σ1 k
  |some (s,kl)=>match σ.env s with
   |.one (.v .bool b)=>aL b
    (match kl with
     |true=>dM T o.dst o.op (σ.lit s true) fun σ1=>nK T os σ1 k
     |false=>nK T os ((σ.lit s true).put o.dst (.bk [])) k)
    (match kl with
     |true=>nK T os ((σ.lit s false).put o.dst (.bk [])) k
     |false=>dM T o.dst o.op (σ.lit s false) fun σ1=>nK T os σ1 k)
   |.bk []=>nK T os (σ.put o.dst (.bk [])) k
   |_=>none
theorem FT {T:List ar}:∀{os:List ez} {σ:aa} {k:aa->Option ρ} {r:ρ},nK T os σ k=some r->
  ∃σ1:aa,dZ (bT T) (os.map ez.er) σ.er=some σ1.er/\k σ1=some r
 |[],σ,k,r,h=>⟨σ,rfl,h⟩
 |o::os,σ,k,r,h=>by
  obtain⟨d,op,g⟩:=o
  have run:∀jE:aa,jE.er=σ.er->cQ (bT T) (ez.er ⟨d,op,g⟩) σ.er=exec (bT T) d op.er σ.er->dM T d op jE (fun σ1=>nK T os σ1 k)=some r->
    ∃σ1:aa,dZ (bT T) ((⟨d,op,g⟩::os).map ez.er) σ.er=some σ1.er/\k σ1=some r:=by
   intro jE h0 he hs
   obtain⟨σ1,h1,h2⟩:=aaC hs
   obtain⟨σ2,h3,h4⟩:=FT h2
   rw[h0] at h1
   exact⟨σ2,by simp only[List.map_cons,dZ,he,h1,h3],h4⟩
  have Ac:∀jE:aa,jE.er=σ.er->cQ (bT T) (ez.er ⟨d,op,g⟩) σ.er=some (σ.er.put d (.bk []))->nK T os (jE.put d (.bk [])) k=some r->
    ∃σ1:aa,dZ (bT T) ((⟨d,op,g⟩::os).map ez.er) σ.er=some σ1.er/\k σ1=some r:=by
   intro jE h0 he hs
   obtain⟨σ2,h3,h4⟩:=FT hs
   rw[aa.cL,h0] at h3
   exact⟨σ2,by simp only[List.map_cons,dZ,he];exact h3,h4⟩
  cases g with
  |none=>exact run σ rfl rfl h
  |some g=>
   obtain⟨s,kl⟩:=g
   simp only[nK] at h
   split at h
   ·rename_i b hs
    have gX:σ.er.env s=.one (.c (.bool b)):=by show(σ.env s).er=_;rw[hs];rfl
    cases hb:(b:Bool) with
    |true=>
     have h0:(σ.lit s true).er=σ.er:=aa.DY (by rw[hs,hb])
     rw[hb] at h
     simp only[Mx] at h
     cases kl with
     |true=>exact run _ h0 (by simp[cQ,ez.er,gX,hb]) h
     |false=>exact Ac _ h0 (by simp[cQ,ez.er,gX,hb]) h
    |false=>
     have h0:(σ.lit s false).er=σ.er:=aa.DY (by rw[hs,hb])
     rw[hb] at h
     simp only[Ik] at h
     cases kl with
     |true=>exact Ac _ h0 (by simp[cQ,ez.er,gX,hb]) h
     |false=>exact run _ h0 (by simp[cQ,ez.er,gX,hb]) h
   ·rename_i hs
    have gX:σ.er.env s=.bk []:=by show(σ.env s).er=_;rw[hs];rfl
    exact Ac σ rfl (by simp[cQ,ez.er,gX]) h
   ·cases h
def oL (T:List ar) (ps:List (Nat×Nat)):List ez->List (Option FP)->aa->(aa->Option ρ)->Option ρ
 |[],cD,σ,k=>da (sk ps cD) (k σ)
 |o::os,cD,σ,k=>match o.guard with
  |none=>dM T o.dst o.op σ fun σ1=>oL T ps os (cD++[o.er.fp σ.er]) σ1 k
  |some (s,kl)=>match σ.env s with
   |.one (.v .bool b)=>aL b
    (match kl with
     |true=>dM T o.dst o.op (σ.lit s true) fun σ1=>oL T ps os (cD++[o.er.fp (σ.lit s true).er]) σ1 k
     |false=>oL T ps os (cD++[o.er.fp (σ.lit s true).er]) ((σ.lit s true).put o.dst (.bk [])) k)
    (match kl with
     |true=>oL T ps os (cD++[o.er.fp (σ.lit s false).er]) ((σ.lit s false).put o.dst (.bk [])) k
     |false=>dM T o.dst o.op (σ.lit s false) fun σ1=>oL T ps os (cD++[o.er.fp (σ.lit s false).er]) σ1 k)
   |.bk []=>oL T ps os (cD++[o.er.fp σ.er]) (σ.put o.dst (.bk [])) k
   |_=>none
theorem Kq {T:List ar} {ps:List (Nat×Nat)}:∀{os:List ez} {cD:List (Option FP)} {σ:aa} {k:aa->Option ρ} {r:ρ},oL T ps os cD σ k=some r->
  ∃(σ1:aa) (fs:List (Option FP)),ku (bT T) (os.map ez.er) cD σ.er=some (fs,σ1.er)/\sk ps fs=true/\k σ1=some r
 |[],cD,σ,k,r,h=>⟨σ,cD,rfl,(bw h).1,(bw h).2⟩
 |o::os,cD,σ,k,r,h=>by
  obtain⟨d,op,g⟩:=o
  have run:∀jE:aa,jE.er=σ.er->cQ (bT T) (ez.er ⟨d,op,g⟩) σ.er=exec (bT T) d op.er σ.er->dM T d op jE (fun σ1=>oL T ps os (cD++[(ez.er ⟨d,op,g⟩).fp jE.er]) σ1 k)=some r->
    ∃(σ1:aa) (fs:List (Option FP)),ku (bT T) ((⟨d,op,g⟩::os).map ez.er) cD σ.er=some (fs,σ1.er)/\sk ps fs=true/\k σ1=some r:=by
   intro jE h0 he hs
   obtain⟨σ1,h1,h2⟩:=aaC hs
   obtain⟨σ2,fs,h3,h4⟩:=Kq h2
   rw[h0] at h1 h3
   exact⟨σ2,fs,by simp only[List.map_cons,ku,he,h1,h3],h4⟩
  have Ac:∀jE:aa,jE.er=σ.er->cQ (bT T) (ez.er ⟨d,op,g⟩) σ.er=some (σ.er.put d (.bk []))->oL T ps os (cD++[(ez.er ⟨d,op,g⟩).fp jE.er]) (jE.put d (.bk [])) k=some r->
    ∃(σ1:aa) (fs:List (Option FP)),ku (bT T) ((⟨d,op,g⟩::os).map ez.er) cD σ.er=some (fs,σ1.er)/\sk ps fs=true/\k σ1=some r:=by
   intro jE h0 he hs
   obtain⟨σ2,fs,h3,h4⟩:=Kq hs
   rw[aa.cL,h0] at h3
   exact⟨σ2,fs,by simp only[List.map_cons,ku,he];exact h3,h4⟩
  cases g with
  |none=>exact run σ rfl rfl h
  |some g=>
   obtain⟨s,kl⟩:=g
   simp only[oL] at h
   split at h
   ·rename_i b hs
    have gX:σ.er.env s=.one (.c (.bool b)):=by show(σ.env s).er=_;rw[hs];rfl
    cases hb:(b:Bool) with
    |true=>
     have h0:(σ.lit s true).er=σ.er:=aa.DY (by rw[hs,hb])
     rw[hb] at h
     simp only[Mx] at h
     cases kl with
     |true=>exact run _ h0 (by simp[cQ,ez.er,gX,hb]) h
     |false=>exact Ac _ h0 (by simp[cQ,ez.er,gX,hb]) h
    |false=>
     have h0:(σ.lit s false).er=σ.er:=aa.DY (by rw[hs,hb])
     rw[hb] at h
     simp only[Ik] at h
     cases kl with
     |true=>exact Ac _ h0 (by simp[cQ,ez.er,gX,hb]) h
     |false=>exact run _ h0 (by simp[cQ,ez.er,gX,hb]) h
   ·rename_i hs
    have gX:σ.er.env s=.bk []:=by show(σ.env s).er=_;rw[hs];rfl
    exact Ac σ rfl (by simp[cQ,ez.er,gX]) h
   ·cases h
end
end Go.Am
end
section
namespace Go.Am
def SC.gp (n:Nat):SC->SC
 |.bf m k au off sz len=>match Nat.beq m n with
  |true=>.aX
  |false=>.bf m k au off sz len
 |.bX m k au off sz i=>match Nat.beq m n with
  |true=>.aX
  |false=>.bX m k au off sz i
 |x=>x
def SC.cut (n:Nat):SC->SC
 |.fn f bI=>.fn f (bI.map (SC.gp n))
 |.bf m k au off sz len=>SC.gp n (.bf m k au off sz len)
 |.bX m k au off sz i=>SC.gp n (.bX m k au off sz i)
 |.v t x=>.v t x
 |.nil ts=>.nil ts
 |.ptr m k sz off=>.ptr m k sz off
 |.cd ts x off=>.cd ts x off
 |.sl m sz lo len=>.sl m sz lo len
 |.bK ts x off j m sz len=>.bK ts x off j m sz len
 |.aX=>.aX
theorem SC.MB (n:Nat) (c:SC):(c.gp n).er=c.er.gp n:=by
 cases c with
 |bf m k au off sz len=>simp only[SC.gp,SC.er,ab.gp];cases Nat.beq m n<;>rfl
 |bX m k au off sz i=>simp only[SC.gp,SC.er,ab.gp];cases Nat.beq m n<;>rfl
 |_=>rfl
theorem SC.wS (n:Nat) (c:SC):(c.cut n).er=c.er.cut n:=by
 cases c with
 |fn f bI=>
  simp only[SC.cut,SC.er,ab.cut,SC.y5,List.map_map]
  congr 1
  exact List.map_congr_left fun c _=>SC.MB n c
 |bf m k au off sz len=>exact SC.MB n (.bf m k au off sz len)
 |bX m k au off sz i=>exact SC.MB n (.bX m k au off sz i)
 |_=>rfl
theorem MC (n:Nat) (cs:List SC):(cs.map (SC.cut n)).map SC.er=(cs.map SC.er).map (ab.cut n):=by
 simp only[List.map_map]
 exact List.map_congr_left fun c _=>SC.wS n c
def SV.cut (n:Nat):SV->SV
 |.one c=>.one (c.cut n)
 |.agg cs=>.agg (cs.map (SC.cut n))
 |.bk xs=>.bk (xs.map fun x=>(x.1,x.2.map (SC.cut n)))
theorem SV.wS (n:Nat) (v:SV):(v.cut n).er=v.er.cut n:=by
 cases v with
 |one c=>simp only[SV.cut,SV.er,ah.cut,SC.wS]
 |agg cs=>simp only[SV.cut,SV.er,ah.cut,MC]
 |bk xs=>
  simp only[SV.cut,SV.er,ah.cut,List.map_map]
  congr 1
  exact List.map_congr_left fun x _=>by simp only[Function.comp];rw[MC]
def SB.cut (n:Nat):SB->SB
 |.box cs=>.box (cs.map (SC.cut n))
 |.row gr m ts xs=>.row gr m ts xs
theorem SB.wS (n:Nat) (b:SB):(b.cut n).er=b.er.cut n:=by
 cases b with
 |box cs=>simp only[SB.cut,SB.er,aj.cut,MC]
 |row gr m ts xs=>rfl
def aa.cut (σ:aa) (n:Nat):aa:={σ with env:=fun s=>(σ.env s).cut n,h:=fun m=>match σ.h m with|some b=>some (b.cut n)|none=>none}
theorem aa.wS (σ:aa) (n:Nat):(σ.cut n).er=σ.er.cut n:=by
 simp only[aa.cut,aa.er,St.cut]
 congr 1
 ·funext s;exact SV.wS n (σ.env s)
 ·funext m
  simp only[cf]
  cases σ.h m with
  |none=>rfl
  |some b=>simp only[Option.map_some,SB.wS]
def aa.rl (σ:aa) (s:Nat) (v:SV):aa:={σ with env:=ao σ.env s v}
theorem aa.aaz (σ:aa) (s:Nat) (v:SV):(σ.rl s v).er=σ.er.rl s v.er:=by
 simp only[aa.rl,aa.er,St.rl,uO]
section
variable {ρ:Type}
structure DA where
 ia:Nat
 sz:Nat
 by_:Nat
 mx:bV
 ml:bV
 my:bV
 d:Nat
def DA.er (s:DA):oT:=⟨s.ia,s.sz,s.by_,s.mx.er,s.ml.er,s.my.er,s.d⟩
def C2 (sp:DA) (σ:aa) (k:aa->Option ρ):Option ρ:=
 match σ.ev sp.mx,σ.ev sp.ml,σ.ev sp.my with
 |.one (.ptr n kk rs off),.one (.bf n' tP kJ jR _ _),.one yc=>
  bH n' n (bH kJ rs (bH jR off (bH (off+1) rs (da (!(Nat.ble aJ n)) ((iS tP kk).U fun _=>match σ.h n with
   |some (.row true .live ts xs)=>bH ts.length rs ((dj xs kk).U fun e=>match(Ty.fG ts e)[off]? with
    |some ⟨.list us,ls⟩=>bH us.length sp.sz (da (Ty.eo us) (wk σ.h yc fun t y=>match t,y with
     |.list vs,ys=>match Ty.cast (.list vs) (.list us) ys with
      |some zs=>(lf (aV (J (α:=Ty.DL us) ls) (J (α:=Ty.DL us) zs)) sp.by_).U fun _=>match FQ ts e off ⟨.list us,cY (α:=Ty.DL us) ls zs⟩ with
       |some e'=>k ((σ.cut n).cW n (.row true .live ts (cK xs kk e')))
       |none=>none
      |none=>none
     |_,_=>none))
    |_=>none)
   |_=>none)))))
 |_,_,_=>none
theorem SE {a b:Nat} {u:Unit} (h:iS a b=some u):a=b:=by
 unfold iS at h
 split at h
 ·assumption
 ·cases h
theorem aaN {sp:DA} {σ:aa} {k:aa->Option ρ} {r:ρ} (h:C2 sp σ k=some r):∃σ1:aa,xL sp.er σ.er=some σ1.er/\k σ1=some r:=by
 unfold C2 at h
 split at h
 ·rename_i n kk rs off n' tP kJ jR s0 tS yc e1 e2 e3
  have aQ:=(aH h).1;replace h:=(aH h).2;subst aQ
  have aQ:=(aH h).1;replace h:=(aH h).2;subst aQ
  have aQ:=(aH h).1;replace h:=(aH h).2;subst aQ
  have mq:=(aH h).1;replace h:=(aH h).2
  have hp:=(bw h).1;replace h:=(bw h).2
  rw[cU] at h
  obtain⟨_,hk,h⟩:=h
  have hk:=SE hk
  subst hk
  have np:n'<aJ:=by
   rcases Nat.lt_or_ge n' aJ with h1|h1
   ·exact h1
   ·rw[Nat.ble_eq_true_of_le h1] at hp;cases hp
  split at h
  ·rename_i ts xs hn
   have B4:=(aH h).1;replace h:=(aH h).2
   rw[cU] at h
   obtain⟨e,he,h⟩:=h
   replace he:xs[tP]? =some e:=he
   split at h
   ·rename_i us ls hd
    have jq:=(aH h).1;replace h:=(aH h).2
    have gO:=(bw h).1;replace h:=(bw h).2
    obtain⟨t,y,hv,h⟩:=Al h
    split at h
    ·rename_i vs ys
     split at h
     ·rename_i zs afu
      rw[cU] at h
      obtain⟨_,eP,h⟩:=h
      have eP:(List.length (α:=Ty.DL us) ls+List.length (α:=Ty.DL us) zs)*sp.by_<=e8:=by
       unfold lf at eP
       split at eP
       ·assumption
       ·cases eP
      split at h
      ·rename_i e' tz
       refine⟨_,?_,h⟩
       have g1:σ.er.ev sp.er.mx=.one (.ptr n' tP kJ jR):=by show σ.er.ev sp.mx.er=_;rw[aa.cG,e1];rfl
       have g2:σ.er.ev sp.er.ml=.one (.bf n' tP kJ jR s0 tS):=by show σ.er.ev sp.ml.er=_;rw[aa.cG,e2];rfl
       have g3:σ.er.ev sp.er.my=.one yc.er:=by show σ.er.ev sp.my.er=_;rw[aa.cG,e3];rfl
       have bh:σ.er.h n'=some (.row true .live ts.length (List.map (Ty.aw ts) xs)):=by simp[aa.er,cf,hn,SB.er]
       have gK:(List.map (Ty.aw ts) xs)[tP]? =some (Ty.aw ts e):=by rw[List.getElem?_map,he];rfl
       have nh:=Is hd
       have eH:bQ σ.er.h yc.er=some ((Ty.list us).er zs):=by rw[<-Ty.Mf afu];exact hv
       have I9:(Ty.aw ts e)[jR]? =some (.list us.length (List.map (Ty.aw us) ls)):=nh
       have tB:bQ σ.er.h yc.er=some (.list us.length (List.map (Ty.aw us) zs)):=eH
       simp only[xL,g1,g2,g3,mq,np,and_self,if_true,bh,B4,gK,Option.bind_some,I9,tB]
       have XE:((List.map (Ty.aw us) ls).length+(List.map (Ty.aw us) zs).length)*sp.er.by_<=e8:=by
        rw[show(List.map (Ty.aw us) ls).length=List.length (α:=Ty.DL us) ls from List.length_map _,show(List.map (Ty.aw us) zs).length=List.length (α:=Ty.DL us) zs from List.length_map _]
        exact eP
       rw[if_pos ⟨jq,jq,sA us ls gO,sA us zs gO,XE⟩]
       have vo:=TQ tz
       have hgd:(List.map (Ty.aw ts) xs).getD tP []=Ty.aw ts e:=by rw[List.getD_eq_getElem?_getD,gK];rfl
       rw[aa.n6,aa.wS,hgd]
       simp only[SB.er]
       rw[show(List.map (Ty.aw ts) (cK xs tP e'))=(List.map (Ty.aw ts) xs).set tP (Ty.aw ts e') from by show List.map _ (xs.set tP e')=_;rw[List.map_set],vo]
       have afp:(Ty.list us).er (cY (α:=Ty.DL us) ls zs)=.list us.length (List.map (Ty.aw us) ls++List.map (Ty.aw us) zs):=by
        show C.list us.length (List.map (Ty.aw us) (List.append (α:=Ty.DL us) ls zs))=_
        exact congrArg (C.list us.length) List.map_append
       rw[afp,jq,B4]
       rfl
      ·cases h
     ·cases h
    ·cases h
   ·cases h
  ·cases h
 ·cases h
inductive uw where
 |s6 (ts:List Ty) (p:bV)
 |uE (p:bV) (s:Nat)
 |pop (x lo:bV) (s:Nat)
 |wM (f:FuncId) (xs:List bV)
def uw.er:uw->Dr
 |.s6 ts p=>.s6 ts.length p.er
 |.uE p s=>.uE p.er s
 |.pop x lo s=>.pop x.er lo.er s
 |.wM f xs=>.wM f (xs.map bV.er)
inductive uz where
 |op (m:ez)
 |m7 (d:Nat) (c:uw)
def uz.er:uz->Dq
 |.op m=>.op m.er
 |.m7 d c=>.m7 d c.er
def Uj (σ:aa) (c:SC) (last:Bool) (k:TD->aa->Option ρ):Option ρ:=
 match c with
 |.v t x=>da t.dL (k ⟨t,x⟩ σ)
 |.nil ts=>match ts with
  |[]=>none
  |t::us=>k ⟨.list (t::us),([]:List (Ty.DL (t::us)))⟩ σ
 |.sl n sz lo len=>match σ.h n with
  |some (.row gr m ts xs)=>bH ts.length sz (da (m.own&&Ty.eo ts) (bH lo 0 ((dH xs len).U fun ys=>match last with
   |true=>da gr ((J4 len).U fun _=>k ⟨.list ts,ys⟩ (σ.del n))
   |false=>k ⟨.list ts,ys⟩ (σ.del n))))
  |_=>none
 |_=>none
theorem amv {ts:List Ty} {xs ys:List (Ty.DL ts)} {len:Nat} (h:dH xs len=some ys):len<=xs.length/\(List.map (Ty.aw ts) xs).take len=List.map (Ty.aw ts) ys:=by
 unfold dH at h
 split at h
 ·rename_i hl
  injection h with h
  subst h
  exact⟨hl,by rw[List.map_take]⟩
 ·cases h
theorem amd {σ:aa} {c:SC} {last:Bool} {k:TD->aa->Option ρ} {r:ρ} (h:Uj σ c last k=some r):
  ∃(x:TD) (o:Bool) (σ1:aa),σ.er.uj c.er=some (x.1.er x.2,o,σ1.er)/\(last=true->o=true)/\k x σ1=some r:=by
 unfold Uj at h
 split at h
 ·rename_i t x
  have hs:=(bw h).1;replace h:=(bw h).2
  refine⟨⟨t,x⟩,true,σ,?_,fun _=>rfl,h⟩
  simp only[SC.er,St.uj,Ty.v9,hs,if_true]
 ·split at h
  ·cases h
  ·rename_i t us
   exact⟨⟨.list (t::us),[]⟩,true,σ,by simp[SC.er,St.uj,Ty.er],fun _=>rfl,h⟩
 ·rename_i n sz lo len
  split at h
  ·rename_i gr m ts xs hn
   have aQ:=(aH h).1;replace h:=(aH h).2;subst aQ
   have hm:=(bw h).1;replace h:=(bw h).2
   have aQ:=(aH h).1;replace h:=(aH h).2;subst aQ
   rw[cU] at h
   obtain⟨ys,hw,h⟩:=h
   obtain⟨w1,w2⟩:=amv hw
   simp only[Bool.and_eq_true] at hm
   have bm:m≠ .aG:=by rintro rfl;cases hm.1
   have bh:σ.er.h n=some (.row gr m ts.length (List.map (Ty.aw ts) xs)):=by simp[aa.er,cf,hn,SB.er]
   have bW:σ.er.uj (SC.sl n ts.length 0 len).er=some ((Ty.list ts).er ys,gr&&decide (0<len),(σ.del n).er):=by
    simp only[SC.er,St.uj,bh,List.length_map,ne_eq,bm,not_false_eq_true,sA ts xs hm.2,w1,and_self,if_true,w2,aa.y4]
    rfl
   cases last with
   |false=>exact⟨⟨.list ts,ys⟩,_,σ.del n,bW,(fun h=>by cases h),h⟩
   |true=>
    have hg:=(bw h).1;replace h:=(bw h).2
    rw[cU] at h
    obtain⟨_,hp,h⟩:=h
    have hp:0<len:=by
     unfold J4 at hp
     split at hp
     ·assumption
     ·cases hp
    exact⟨⟨.list ts,ys⟩,_,σ.del n,bW,fun _=>by simp[hg,hp],h⟩
  ·cases h
 ·cases h
def KN:aa->List SC->(List TD->aa->Option ρ)->Option ρ
 |σ,[],k=>k [] σ
 |σ,c::cs,k=>Uj σ c (match cs with|[]=>true|_::_=>false) fun x σ1=>KN σ1 cs fun l σ2=>k (x::l) σ2
theorem abf:∀{cs:List SC} {σ:aa} {k:List TD->aa->Option ρ} {r:ρ},KN σ cs k=some r->∃l σ1,σ.er.rr (cs.map SC.er)=some (cg l,true,σ1.er)/\k l σ1=some r
 |[],σ,k,r,h=>⟨[],σ,rfl,h⟩
 |c::cs,σ,k,r,h=>by
  simp only[KN] at h
  obtain⟨x,o,σ1,h1,h2,h3⟩:=amd h
  obtain⟨l,σ2,h4,h5⟩:=abf h3
  refine⟨x::l,σ2,?_,h5⟩
  simp only[List.map_cons,St.rr,h1,h4,cg]
  cases cs with
  |nil=>rw[h2 rfl];rfl
  |cons c2 Bo=>rfl
def TL (T:List ar) (d:Nat) (f:FuncId) (as:List SV) (σ:aa) (k:aa->Option ρ):Option ρ:=
 match ar.ld 5 T f with
 |some fn=>Da σ.h as fun ds=>match lJ fn.args ds with
  |some x=>(fn.F x).U fun rs=>match fW fn.aB rs with
   |[(.one,[⟨.list ts,xs⟩])]=>match σ.ins (iw (some d)) (.row true .live ts xs) with
    |some σ1=>k (σ1.put (some d) (.one (.sl (iw (some d)) ts.length 0 (J (α:=Ty.DL ts) xs))))
    |none=>none
   |_=>none
  |none=>none
 |none=>none
theorem alH {T:List ar} {d:Nat} {f:FuncId} {as:List SV} {σ:aa} {k:aa->Option ρ} {r:ρ} (h:TL T d f as σ k=some r):
  ∃σ1:aa,DT (bT T) d f (as.map SV.er) σ.er=some σ1.er/\k σ1=some r:=by
 unfold TL at h
 split at h
 ·rename_i fn hf
  obtain⟨ds,h1,h2⟩:=KP h
  split at h2
  ·rename_i x hx
   rw[cU] at h2
   obtain⟨rs,hF,h2⟩:=h2
   split at h2
   ·rename_i ts xs iC
    split at h2
    ·rename_i σ1 hi
     refine⟨_,?_,h2⟩
     have hM:fn.M (ds.map bz.er)=some [(.one,[.list ts.length (List.map (Ty.aw ts) xs)])]:=by
      have e1:fn.M (ds.map bz.er)=some (cF fn.aB rs):=by rw[pQ hx,ar.sS,hF];rfl
      have e2:cF fn.aB rs=[(.one,[.list ts.length (List.map (Ty.aw ts) xs)])]:=by rw[<-rK,iC];rfl
      exact e1.trans (congrArg some e2)
     have ii:ji σ.er.h (as.map SV.er)=some (ds.map bz.er):=h1
     have hi':σ.er.ins (iw (some d)) (.row true .live ts.length (List.map (Ty.aw ts) xs))=some σ1.er:=aa.m9 hi
     simp only[DT,ii,ar.WN hf,hM,hi',aa.cL,SV.er,SC.er]
     exact congrArg (fun q=>some (σ1.er.put (some d) (.one (.sl (iw (some d)) ts.length 0 q)))) (List.length_map (Ty.aw ts))
    ·cases h2
   ·cases h2
  ·cases h2
 ·cases h
def CU (T:List ar) (d:Nat) (c:uw) (σ:aa) (k:aa->Option ρ):Option ρ:=
 match c with
 |.s6 ts p=>match(σ.ev p).cells? with
  |some (_,cs)=>bH cs.length ts.length (KN σ cs fun l σ1=>match pP ts l with
   |some e=>match σ1.ins d (.row true .live ts [e]) with
    |some σ2=>k (σ2.put (some d) (.one (.sl d ts.length 0 1)))
    |none=>none
   |none=>none)
  |none=>none
 |.uE p s=>match σ.ev p,σ.env s with
  |.one (.sl q sz lo len),.one (.sl q' ax xH tR)=>bH q' q (bH ax sz (bH lo 0 (bH xH 0 (da (!(Nat.beq s d)) ((iS tR len).U fun _=>KL σ (.sl q sz 0 len) fun t x o σ1=>da o (match σ1.ins d (.row true .af [t] [x]) with
   |some σ2=>k ((σ2.put (some d) (.one (.sl d 1 0 1))).rl s (.one (.v t x)))
   |none=>none))))))
  |_,_=>none
 |.pop x lo s=>match σ.ev x,(σ.ev lo).cJ,σ.env s with
  |.one (.sl n s1 l1 len),some l,.one (.bf n' kk rs off _ _)=>bH s1 1 (bH l1 0 (bH n' n (bH rs 1 (bH off 0 (da (!(Nat.beq s d)) (da (decide (l=1)) ((iS kk 0).U fun _=>match σ.h n with
   |some (.row true .live [.list us] xs)=>(ai 0 len (J xs)).U fun _=>(dj (α:=List (Ty.DL us)) xs 0).U fun ys=>da (Ty.eo us) (match(σ.del n).ins d (.row true .live [.list us] (sF xs)) with
    |some σ1=>match σ1.ins (iw (some d)) (.row false .af us ys) with
     |some σ2=>k ((σ2.put (some d) (.one (.sl d 1 0 (J (sF xs))))).rl s (.one (.sl (iw (some d)) us.length 0 (J ys))))
     |none=>none
    |none=>none)
   |_=>none)))))))
  |_,_,_=>none
 |.wM f xs=>TL T d f (xs.map σ.ev) σ k
theorem alD {T:List ar} {d:Nat} {c:uw} {σ:aa} {k:aa->Option ρ} {r:ρ} (h:CU T d c σ k=some r):
  ∃σ1:aa,rJ (bT T) d c.er σ.er=some σ1.er/\k σ1=some r:=by
 cases c with
 |s6 ts p=>
  simp only[CU] at h
  split at h
  ·rename_i ag cs dm
   have hl:=(aH h).1;replace h:=(aH h).2
   obtain⟨l,σ1,h1,h2⟩:=abf h
   split at h2
   ·rename_i e he
    split at h2
    ·rename_i σ2 hi
     refine⟨_,?_,h2⟩
     have w7:(σ.er.ev p.er).cells?=some (ag,cs.map SC.er):=by rw[aa.cG];exact SV.jo dm
     have hi':σ1.er.ins d (.row true .live ts.length [cg l])=some σ2.er:=by
      have:=aa.m9 hi
      simp only[SB.er,List.map_cons,List.map_nil,vP he] at this
      exact this
     simp only[uw.er,rJ,w7,List.length_map,hl,if_true,h1,hi',aa.cL]
     rfl
    ·cases h2
   ·cases h2
  ·cases h
 |uE p s=>
  simp only[CU] at h
  split at h
  ·rename_i q sz lo len q' ax xH tR e1 e2
   have aQ:=(aH h).1;replace h:=(aH h).2;subst aQ
   have aQ:=(aH h).1;replace h:=(aH h).2;subst aQ
   have aQ:=(aH h).1;replace h:=(aH h).2;subst aQ
   have aQ:=(aH h).1;replace h:=(aH h).2;subst aQ
   have hs:=(bw h).1;replace h:=(bw h).2
   rw[cU] at h
   obtain⟨_,hk,h⟩:=h
   have hk:=SE hk
   subst hk
   obtain⟨t,x,o,σ1,h1,h2⟩:=abd h
   have ho:=(bw h2).1;replace h2:=(bw h2).2
   subst ho
   split at h2
   ·rename_i σ2 hi
    refine⟨_,?_,h2⟩
    have w7:σ.er.ev p.er=.one (.sl q' ax 0 tR):=by rw[aa.cG,e1];rfl
    have rS:σ.er.env s=.one (.sl q' ax 0 tR):=by show(σ.env s).er=_;rw[e2];rfl
    have B2:s≠d:=by
     rintro rfl
     rw[Nat.beq_refl] at hs
     cases hs
    have ii:σ.er.eM (.sl q' ax 0 tR)=some (t.er x,true,σ1.er):=h1
    have hi':σ1.er.ins d (.row true .af 1 [[t.er x]])=some σ2.er:=aa.m9 hi
    simp only[uw.er,rJ,w7,rS,ne_eq,B2,not_false_eq_true,and_self,if_true,ii,hi',aa.aaz,aa.cL]
    rfl
   ·cases h2
  ·cases h
 |pop x lo s=>
  simp only[CU] at h
  split at h
  ·rename_i n s1 l1 len l n' kk rs off s0 tS e1 e2 e3
   have aQ:=(aH h).1;replace h:=(aH h).2;subst aQ
   have aQ:=(aH h).1;replace h:=(aH h).2;subst aQ
   have aQ:=(aH h).1;replace h:=(aH h).2;subst aQ
   have aQ:=(aH h).1;replace h:=(aH h).2;subst aQ
   have aQ:=(aH h).1;replace h:=(aH h).2;subst aQ
   have hs:=(bw h).1;replace h:=(bw h).2
   have hl:=(bw h).1;replace h:=(bw h).2
   have hl:=of_decide_eq_true hl
   subst hl
   rw[cU] at h
   obtain⟨_,hk,h⟩:=h
   have hk:=SE hk
   subst hk
   split at h
   ·rename_i us xs hn
    rw[cU] at h
    obtain⟨_,hf,h⟩:=h
    obtain⟨_,hlen⟩:=IK hf
    rw[cU] at h
    obtain⟨ys,hy,h⟩:=h
    have gO:=(bw h).1;replace h:=(bw h).2
    split at h
    ·rename_i σ1 tp
     split at h
     ·rename_i σ2 rT
      refine⟨_,?_,h⟩
      have w7:σ.er.ev x.er=.one (.sl n' 1 0 len):=by rw[aa.cG,e1];rfl
      have pt:(σ.er.ev lo.er).cJ=some 1:=by rw[aa.cG];exact SV.xy e2
      have rS:σ.er.env s=.one (.bf n' 0 1 0 s0 tS):=by show(σ.env s).er=_;rw[e3];rfl
      have B2:s≠d:=by
       rintro rfl
       rw[Nat.beq_refl] at hs
       cases hs
      have bh:σ.er.h n'=some (.row true .live 1 (List.map (Ty.aw [.list us]) xs)):=by simp[aa.er,cf,hn,SB.er]
      have zF:(List.map (Ty.aw [.list us]) xs)[0]? =some [C.list us.length (List.map (Ty.aw us) ys)]:=Xg (ts:=[.list us]) (ys:=xs) hy
      have zB:=sA us ys gO
      have afL:(σ.er.del n').ins d (.row true .live 1 ((List.map (Ty.aw [.list us]) xs).drop 1))=some σ1.er:=by
       have:=aa.m9 tp
       rw[aa.y4] at this
       simp only[SB.er,sF] at this
       rw[List.map_drop] at this
       exact this
      have afM:σ1.er.ins (iw (some d)) (.row false .af us.length (List.map (Ty.aw us) ys))=some σ2.er:=aa.m9 rT
      have hlx:len=(List.map (Ty.aw [.list us]) xs).length:=by rw[hlen];exact(List.length_map _).symm
      simp only[uw.er,rJ,w7,pt,rS,ne_eq,B2,not_false_eq_true,and_self,if_true,bh,hlx,zF,zB,afL,afM,aa.aaz,aa.cL,SV.er,SC.er]
      have g1:(List.map (Ty.aw [.list us]) xs).length - 1=J (sF xs):=by
       show _=(xs.drop 1).length
       rw[List.length_drop,List.length_map]
      have g2:(List.map (Ty.aw us) ys).length=J (α:=Ty.DL us) ys:=List.length_map _
      rw[g1,g2]
     ·cases h
    ·cases h
   ·cases h
  ·cases h
 |wM f xs=>
  simp only[CU] at h
  obtain⟨σ1,h1,h2⟩:=alH h
  refine⟨σ1,?_,h2⟩
  simp only[uw.er,rJ]
  rw[<-h1]
  congr 1
  simp only[List.map_map]
  exact List.map_congr_left fun x _=>aa.cG σ x
def aaB (T:List ar) (m:ez) (σ:aa) (k:aa->Option ρ):Option ρ:=nK T [m] σ k
theorem alP {T:List ar} {m:ez} {σ:aa} {k:aa->Option ρ} {r:ρ} (h:aaB T m σ k=some r):∃σ1:aa,cQ (bT T) m.er σ.er=some σ1.er/\k σ1=some r:=by
 obtain⟨σ1,h1,h2⟩:=FT h
 refine⟨σ1,?_,h2⟩
 simp only[List.map_cons,List.map_nil,dZ] at h1
 split at h1
 ·rename_i σ2 he
  injection h1 with h1
  rw[he,h1]
 ·cases h1
def FO (T:List ar):List uz->aa->(aa->Option ρ)->Option ρ
 |[],σ,k=>k σ
 |.op m::l,σ,k=>aaB T m σ fun σ1=>FO T l σ1 k
 |.m7 d c::l,σ,k=>CU T d c σ fun σ1=>FO T l σ1 k
theorem TH {T:List ar}:∀{l:List uz} {σ:aa} {k:aa->Option ρ} {r:ρ},FO T l σ k=some r->∃σ1:aa,s9 (bT T) (l.map uz.er) σ.er=some σ1.er/\k σ1=some r
 |[],σ,k,r,h=>⟨σ,rfl,h⟩
 |.op m::l,σ,k,r,h=>by
  obtain⟨σ1,h1,h2⟩:=alP h
  obtain⟨σ2,h3,h4⟩:=TH h2
  exact⟨σ2,by simp only[List.map_cons,uz.er,s9,h1,h3],h4⟩
 |.m7 d c::l,σ,k,r,h=>by
  obtain⟨σ1,h1,h2⟩:=alD h
  obtain⟨σ2,h3,h4⟩:=TH h2
  exact⟨σ2,by simp only[List.map_cons,uz.er,s9,h1,h3],h4⟩
end
end Go.Am
end
