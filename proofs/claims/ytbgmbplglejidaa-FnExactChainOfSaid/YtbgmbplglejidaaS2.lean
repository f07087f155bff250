/- S2: the typed evaluator's helpers. No condition. -/
import Derived.Test.YtbgmbplglejidaaS1
set_option linter.unusedVariables false
namespace Go.Am
def eP {ρ:Type} (b:Bool) (x:Option ρ):Option ρ:=match b with|true=>x|false=>none
def cG {ρ:Type} (a b:Nat) (x:Option ρ):Option ρ:=match Nat.beq a b with|true=>x|false=>none
theorem bZ {ρ:Type} {b:Bool} {x:Option ρ} {r:ρ} (h:eP b x=some r):b=true/\x=some r:=by
 cases b with
 |true=>exact⟨rfl,h⟩
 |false=>cases h
theorem bc {ρ:Type} {a b:Nat} {x:Option ρ} {r:ρ} (h:cG a b x=some r):a=b/\x=some r:=by
 unfold cG at h
 split at h
 ·rename_i e;exact⟨Nat.eq_of_beq_eq_true e,h⟩
 ·cases h
abbrev TD:=(t:Ty)×t.D
inductive cz where
 |t (n:Nat)
 |k (v:SV)
def cz.er:cz->MO
 |.t n=>.t n
 |.k v=>.k v.er
def af.ev (σ:af):cz->SV
 |.t n=>σ.env n
 |.k v=>v
theorem af.dm (σ:af) (x:cz):σ.er.ev x.er=(σ.ev x).er:=by cases x<;>rfl
def SV.cells?:SV->Option (Bool×List SC)
 |.one .bn=>none
 |.one c=>some (false,[c])
 |.agg cs=>some (true,cs)
 |.bo _=>none
theorem SV.lx {v:SV} {b:Bool} {cs:List SC} (h:v.cells?=some (b,cs)):v.er.cells?=some (b,cs.map SC.er):=by
 cases v with
 |one c=>cases c<;>simp[SV.cells?] at h<;>(obtain⟨rfl,rfl⟩:=h;rfl)
 |agg cs'=>simp[SV.cells?] at h;obtain⟨rfl,rfl⟩:=h;rfl
 |bo xs=>simp[SV.cells?] at h
def zw:Bool->List SC->SV
 |true,cs=>.agg cs
 |false,[c]=>.one c
 |false,_=>.one .bn
theorem Cu (b:Bool) (cs:List SC):(zw b cs).er=kZ b (cs.map SC.er):=by
 cases b with
 |true=>rfl
 |false=>match cs with
  |[]=>rfl
  |[c]=>rfl
  |_::_::_=>rfl
section
variable {ρ:Type}
def HK (op:BinOp) (k:IntKind) (a b:Int) (c:(t:Ty)->t.D->Option ρ):Option ρ:=
 match op with
 |.add=>c (.int k) (aU k a b)
 |.sub=>c (.int k) (dV k a b)
 |.mul=>c (.int k) (cu k a b)
 |.quo=>(w7 k a b).U fun x=>c (.int k) x
 |.rem=>(hZ a b).U fun x=>c (.int k) x
 |.and=>c (.int k) (HC k a b)
 |.or=>c (.int k) (orI k a b)
 |.xor=>c (.int k) (aqM k a b)
 |.eql=>c .bool (bL a b)
 |.neq=>c .bool (dt a b)
 |.lss=>c .bool (bd a b)
 |.leq=>c .bool (fM a b)
 |.gtr=>c .bool (bd b a)
 |.geq=>c .bool (fM b a)
 |_=>none
theorem aeD {op:BinOp} {k:IntKind} {a b:Int} {c:(t:Ty)->t.D->Option ρ} {r:ρ} (h:HK op k a b c=some r):
    ∃(t:Ty) (x:t.D),An op k a b=some (t.er x)/\c t x=some r:=by
  cases op<;>first
    |exact⟨.int k,_,rfl,h⟩
    |exact⟨.bool,_,rfl,h⟩
    |(simp only[HK,w7,hZ,eH] at h
      obtain⟨x,h1,h2⟩:=h
      split at h1
      · cases h1
      · rename_i hb
        injection h1 with h1
        subst h1
        exact⟨.int k,_,by simp[An,hb,Ty.er],h2⟩)
    |(simp[HK] at h)
def Kh (op:BinOp) (k:IntKind) (a b:Int) (c:(t:Ty)->t.D->Option ρ):Option ρ:=
 match op with
 |.shl=>(xj k a b).U fun x=>c (.int k) x
 |.shr=>(Cd k a b).U fun x=>c (.int k) x
 |_=>none
theorem apD {op:BinOp} {k:IntKind} {a b:Int} {c:(t:Ty)->t.D->Option ρ} {r:ρ} (h:Kh op k a b c=some r):
    ∃(t:Ty) (x:t.D),E7 op k a b=some (t.er x)/\c t x=some r:=by
  cases op<;>first
    |(simp only[Kh,xj,Cd,eH] at h
      obtain⟨x,h1,h2⟩:=h
      split at h1
      · cases h1
      · rename_i hb
        injection h1 with h1
        subst h1
        exact⟨.int k,_,by simp[E7,hb,Ty.er],h2⟩)
    |(simp[Kh] at h)
def Mo (op:BinOp) (x y:SV) (c:(t:Ty)->t.D->Option ρ):Option ρ:=
 match x,y with
 |.one (.v (.int k) a),.one (.v (.int k') b)=>match BinOp.yR op with
  |true=>Kh op k a b c
  |false=>match decide (k=k') with
   |true=>HK op k a b c
   |false=>none
 |_,_=>none
theorem aeE {op:BinOp} {x y:SV} {c:(t:Ty)->t.D->Option ρ} {r:ρ} (h:Mo op x y c=some r):
  ∃(t:Ty) (z:t.D),vH op x.er y.er=some (t.er z)/\c t z=some r:=by
 unfold Mo at h
 split at h
 ·rename_i k a k' b
  split at h
  ·rename_i e
   obtain⟨t,z,h1,h2⟩:=apD h
   exact⟨t,z,by simp[SV.er,SC.er,Ty.er,vH,e];exact h1,h2⟩
  ·rename_i e
   split at h
   ·rename_i hk
    have hk:=of_decide_eq_true hk
    obtain⟨t,z,h1,h2⟩:=aeD h
    exact⟨t,z,by simp[SV.er,SC.er,Ty.er,vH,e,hk];subst hk;exact h1,h2⟩
   ·cases h
 ·cases h
def Mn (op:BinOp) (x y:SV) (c:(t:Ty)->t.D->Option ρ):Option ρ:=
 match x,y with
 |.one (.v .bool a),.one (.v .bool b)=>match op with
  |.eql=>c .bool (eqB a b)
  |.neq=>c .bool (EB a b)
  |_=>none
 |_,_=>none
theorem aeC {op:BinOp} {x y:SV} {c:(t:Ty)->t.D->Option ρ} {r:ρ} (h:Mn op x y c=some r):
  ∃(t:Ty) (z:t.D),Al op x.er y.er=some (t.er z)/\c t z=some r:=by
 unfold Mn at h
 split at h
 ·rename_i a b
  split at h
  ·exact⟨.bool,_,rfl,h⟩
  ·exact⟨.bool,_,rfl,h⟩
  ·cases h
 ·cases h
def Ww (op:UnOp) (x:SV) (c:(t:Ty)->t.D->Option ρ):Option ρ:=
 match x with
 |.one (.v .bool a)=>match op with
  |.not=>c .bool (cC a)
  |_=>none
 |.one (.v (.int k) a)=>match op with
  |.neg=>c (.int k) (anc k a)
  |_=>none
 |_=>none
theorem aqt {op:UnOp} {x:SV} {c:(t:Ty)->t.D->Option ρ} {r:ρ} (h:Ww op x c=some r):
  ∃(t:Ty) (z:t.D),Cw op x.er=some (t.er z)/\c t z=some r:=by
 unfold Ww at h
 split at h
 ·rename_i a
  split at h
  ·exact⟨.bool,_,rfl,h⟩
  ·cases h
 ·rename_i k a
  split at h
  ·exact⟨.int k,_,rfl,h⟩
  ·cases h
 ·cases h
def SV.dh:SV->Option Int
 |.one (.v (.int k) n)=>some n
 |_=>none
theorem SV.yQ {v:SV} {n:Int} (h:v.dh=some n):v.er.dh=some n:=by
 unfold SV.dh at h
 split at h
 ·injection h with h;subst h;rfl
 ·cases h
def Fe (h:Nat->Option SB) (p:SC) (sz:Nat) (c:List SC->Option ρ):Option ρ:=
 match p with
 |.ptr n k aD off=>match h n with
  |some (.box cs)=>cG k 0 (match sub cs off sz with|some l=>c l|none=>none)
  |some (.row _ m ts xs)=>cG aD ts.length ((bY xs k).U fun e=>
   match sub (match m with|.live=>Ty.live n k ts.length 0 ts e|_=>Ty.cells ts e) off sz with
   |some l=>c l
   |none=>none)
  |none=>none
 |.cj ts x off=>match sub (Ty.cells ts x) off sz with|some l=>c l|none=>none
 |_=>none
theorem VF {h:Nat->Option SB} {p:SC} {sz:Nat} {c:List SC->Option ρ} {r:ρ} (hx:Fe h p sz c=some r):
  ∃l,loadAt (cR h) p.er sz=some (l.map SC.er)/\c l=some r:=by
 unfold Fe at hx
 split at hx
 ·rename_i n k aD off
  split at hx
  ·rename_i cs hn
   have br:=(bc hx).1;replace hx:=(bc hx).2;subst br
   split at hx
   ·rename_i l e
    refine⟨l,?_,hx⟩
    simp[SC.er,loadAt,cR,hn,SB.er,tw,e]
   ·cases hx
  ·rename_i gr m ts xs hn
   have br:=(bc hx).1;replace hx:=(bc hx).2;subst br
   rw[eH] at hx
   obtain⟨e,he,hx⟩:=hx
   replace he:xs[k]? =some e:=he
   split at hx
   ·rename_i l hl
    refine⟨l,?_,hx⟩
    have nc:(List.map (Ty.aJ ts) xs)[k]? =some (Ty.aJ ts e):=by rw[List.getElem?_map,he];rfl
    simp only[SC.er,loadAt,cR,hn,Option.map_some,SB.er,if_true,nc]
    cases m with
    |live=>
     simp only at hl
     have:=congrArg (Option.map (List.map SC.er)) hl
     rw[<-tw,Ty.aaV,aqa] at this
     cases hs:sub (Ty.aJ ts e) off sz with
     |none=>rw[hs] at this;cases this
     |some l'=>rw[hs] at this;simpa using this
    |ab=>
     simp only at hl
     have:=congrArg (Option.map (List.map SC.er)) hl
     rw[<-tw,Ty.lx,tw] at this
     cases hs:sub (Ty.aJ ts e) off sz with
     |none=>rw[hs] at this;cases this
     |some l'=>rw[hs] at this;simpa using this
    |aO=>
     simp only at hl
     have:=congrArg (Option.map (List.map SC.er)) hl
     rw[<-tw,Ty.lx,tw] at this
     cases hs:sub (Ty.aJ ts e) off sz with
     |none=>rw[hs] at this;cases this
     |some l'=>rw[hs] at this;simpa using this
   ·cases hx
  ·cases hx
 ·rename_i ts x off
  split at hx
  ·rename_i l hl
   refine⟨l,?_,hx⟩
   have:=congrArg (Option.map (List.map SC.er)) hl
   rw[<-tw,Ty.lx,tw] at this
   simpa[SC.er,loadAt] using this
  ·cases hx
 ·cases hx
theorem MX:∀{ts:List Ty} {e:Ty.DL ts} {off:Nat} {x:TD},(Ty.gW ts e)[off]? =some x->(Ty.aJ ts e)[off]? =some (x.1.er x.2):=by
 intro ts e off x h
 rw[<-Ty.pN,cA,List.getElem?_map,h]
 rfl
def xr (h:Nat->Option SB) (c:SC) (k:(t:Ty)->t.D->Option ρ):Option ρ:=
 match c with
 |.v t x=>k t x
 |.nil ts=>match ts with
  |[]=>none
  |t::us=>k (.list (t::us)) ([]:List (Ty.DL (t::us)))
 |.sl n sz lo len=>match h n with
  |some (.row _ _ ts xs)=>cG ts.length sz ((cd xs lo len).U fun ys=>k (.list ts) ys)
  |_=>none
 |.bx n kk aD off sz len=>match h n with
  |some (.row _ .live ts xs)=>cG ts.length aD ((bY xs kk).U fun e=>match(Ty.gW ts e)[off]? with
   |some ⟨t,x⟩=>k t x
   |none=>none)
  |_=>none
 |_=>none
theorem ad5 {ts:List Ty} {xs ys:List (Ty.DL ts)} {lo len:Nat} (h:cd xs lo len=some ys):lo+len<=xs.length/\((List.map (Ty.aJ ts) xs).drop lo).take len=List.map (Ty.aJ ts) ys:=by
 unfold cd at h
 split at h
 ·rename_i hl
  injection h with h
  subst h
  exact⟨hl,by simp[List.map_drop,List.map_take]⟩
 ·cases h
theorem Ct {h:Nat->Option SB} {c:SC} {k:(t:Ty)->t.D->Option ρ} {r:ρ} (hx:xr h c k=some r):
  ∃(t:Ty) (x:t.D),bU (cR h) c.er=some (t.er x)/\k t x=some r:=by
 unfold xr at hx
 split at hx
 ·exact⟨_,_,rfl,hx⟩
 ·split at hx
  ·cases hx
  ·rename_i t us
   exact⟨.list (t::us),[],by simp[SC.er,bU,Ty.er],hx⟩
 ·rename_i n sz lo len
  split at hx
  ·rename_i gr m ts xs hn
   have br:=(bc hx).1;replace hx:=(bc hx).2;subst br
   rw[eH] at hx
   obtain⟨ys,hw,hx⟩:=hx
   obtain⟨w1,w2⟩:=ad5 hw
   refine⟨.list ts,ys,?_,hx⟩
   simp only[SC.er,bU,cR,hn,Option.map_some,SB.er,List.length_map,Ty.er,w2,w1,and_self,if_true]
  ·cases hx
 ·rename_i n kk aD off sz len
  split at hx
  ·rename_i gr ts xs hn
   have br:=(bc hx).1;replace hx:=(bc hx).2;subst br
   rw[eH] at hx
   obtain⟨e,he,hx⟩:=hx
   replace he:xs[kk]? =some e:=he
   split at hx
   ·rename_i t x hd
    refine⟨t,x,?_,hx⟩
    have:=MX hd
    simp only[SC.er,bU,cR,hn,Option.map_some,SB.er,if_true,List.getElem?_map,he,Option.bind_some,this]
   ·cases hx
  ·cases hx
 ·cases hx
def zv (h:Nat->Option SB):List SC->(List TD->Option ρ)->Option ρ
 |[],k=>k []
 |c::cs,k=>xr h c fun t x=>zv h cs fun l=>k (⟨t,x⟩::l)
theorem Fw {h:Nat->Option SB}:∀{cs:List SC} {k:List TD->Option ρ} {r:ρ},zv h cs k=some r->
  ∃l,gB (cR h) (cs.map SC.er)=some (cA l)/\k l=some r
 |[],k,r,hx=>⟨[],rfl,hx⟩
 |c::cs,k,r,hx=>by
  simp only[zv] at hx
  obtain⟨t,x,h1,h2⟩:=Ct hx
  obtain⟨l,h3,h4⟩:=Fw h2
  exact⟨⟨t,x⟩::l,by simp[gB,h1,h3,cA],h4⟩
abbrev bM:=K×List TD
def bM.er (d:bM):Dv:=(d.1,cA d.2)
def We (h:Nat->Option SB) (v:SV) (k:bM->Option ρ):Option ρ:=
 match v with
 |.one (.ptr n kk sz off)=>match h n with
  |some (.box cs)=>cG kk 0 (cG off 0 (zv h cs fun l=>k (.ptr,l)))
  |_=>none
 |.one (.cj ts x off)=>cG off 0 (k (.ptr,Ty.gW ts x))
 |.one c=>xr h c fun t x=>k (.one,[⟨t,x⟩])
 |.agg cs=>zv h cs fun l=>k (.agg,l)
 |.bo _=>none
theorem aqb {h:Nat->Option SB} {v:SV} {k:bM->Option ρ} {r:ρ} (hx:We h v k=some r):
  ∃d:bM,ib (cR h) v.er=some d.er/\k d=some r:=by
 unfold We at hx
 split at hx
 ·rename_i n kk sz off
  split at hx
  ·rename_i cs hn
   have br:=(bc hx).1;replace hx:=(bc hx).2;subst br
   have br:=(bc hx).1;replace hx:=(bc hx).2;subst br
   obtain⟨l,h1,h2⟩:=Fw hx
   exact⟨(.ptr,l),by simp[SV.er,SC.er,ib,cR,hn,SB.er];exact⟨_,h1,rfl⟩,h2⟩
  ·cases hx
 ·rename_i ts x off
  have br:=(bc hx).1;replace hx:=(bc hx).2;subst br
  exact⟨(.ptr,Ty.gW ts x),by simp[SV.er,SC.er,ib,bM.er,Ty.pN],hx⟩
 ·rename_i c hp hd
  obtain⟨t,x,h1,h2⟩:=Ct hx
  refine⟨(.one,[⟨t,x⟩]),?_,h2⟩
  cases c with
  |ptr n kk sz off=>exact absurd rfl (hp n kk sz off)
  |cj ts x off=>exact absurd rfl (hd ts x off)
  |v t' x'=>simp only[SV.er,SC.er,ib] at h1⊢;rw[h1];rfl
  |nil ts=>simp only[SV.er,SC.er,ib] at h1⊢;rw[h1];rfl
  |sl n sz lo len=>simp only[SV.er,SC.er,ib] at h1⊢;rw[h1];rfl
  |bx n a b c' d e=>simp only[SV.er,SC.er,ib] at h1⊢;rw[h1];rfl
  |cN n a b c' d e=>simp only[SV.er,SC.er,ib] at h1⊢;rw[h1];rfl
  |fn f cf=>simp only[SV.er,SC.er,ib] at h1⊢;rw[h1];rfl
  |bn=>simp only[SV.er,SC.er,ib] at h1⊢;rw[h1];rfl
 ·obtain⟨l,h1,h2⟩:=Fw hx
  exact⟨(.agg,l),by simp[SV.er,ib,h1,bM.er],h2⟩
 ·cases hx
def Fv (h:Nat->Option SB):List SV->(List bM->Option ρ)->Option ρ
 |[],k=>k []
 |v::vs,k=>We h v fun d=>Fv h vs fun l=>k (d::l)
theorem Wg {h:Nat->Option SB}:∀{vs:List SV} {k:List bM->Option ρ} {r:ρ},Fv h vs k=some r->
  ∃l,kw (cR h) (vs.map SV.er)=some (l.map bM.er)/\k l=some r
 |[],k,r,hx=>⟨[],rfl,hx⟩
 |v::vs,k,r,hx=>by
  simp only[Fv] at hx
  obtain⟨d,h1,h2⟩:=aqb hx
  obtain⟨l,h3,h4⟩:=Wg h2
  exact⟨d::l,by simp[kw,h1,h3],h4⟩
def Mode.own:Mode->Bool
 |.aO=>false
 |_=>true
theorem Mode.anz (m:Mode):decide (m≠ .aO)=m.own:=by cases m<;>rfl
def V8 (σ:af) (c:SC) (k:(t:Ty)->t.D->Bool->af->Option ρ):Option ρ:=
 match c with
 |.v t x=>k t x t.eF σ
 |.nil ts=>match ts with
  |[]=>none
  |t::us=>k (.list (t::us)) ([]:List (Ty.DL (t::us))) true σ
 |.sl n sz lo len=>match σ.h n with
  |some (.row _ m ts xs)=>cG ts.length sz (cG lo 0 ((c9 xs len).U fun ys=>k (.list ts) ys m.own (σ.del n)))
  |_=>none
 |_=>none
theorem adJ {ts:List Ty} {xs ys:List (Ty.DL ts)} {len:Nat} (h:c9 xs len=some ys):len<=xs.length/\(List.map (Ty.aJ ts) xs).take len=List.map (Ty.aJ ts) ys:=by
 unfold c9 at h
 split at h
 ·rename_i hl
  injection h with h
  subst h
  exact⟨hl,by simp[List.map_take]⟩
 ·cases h
theorem ap3 {σ:af} {c:SC} {k:(t:Ty)->t.D->Bool->af->Option ρ} {r:ρ} (hx:V8 σ c k=some r):
  ∃(t:Ty) (x:t.D) (o:Bool) (σ1:af),σ.er.fG c.er=some (t.er x,o,σ1.er)/\k t x o σ1=some r:=by
 unfold V8 at hx
 split at hx
 ·rename_i t x
  exact⟨_,_,_,_,by simp only[SC.er,St.fG,Ty.xg],hx⟩
 ·split at hx
  ·cases hx
  ·rename_i t us
   exact⟨.list (t::us),[],true,σ,by simp[SC.er,St.fG,Ty.er],hx⟩
 ·rename_i n sz lo len
  split at hx
  ·rename_i gr m ts xs hn
   have br:=(bc hx).1;replace hx:=(bc hx).2;subst br
   have br:=(bc hx).1;replace hx:=(bc hx).2;subst br
   rw[eH] at hx
   obtain⟨ys,hw,hx⟩:=hx
   obtain⟨w1,w2⟩:=adJ hw
   refine⟨.list ts,ys,m.own,σ.del n,?_,hx⟩
   have bk:σ.er.h n=some (.row gr m ts.length (List.map (Ty.aJ ts) xs)):=by simp[af.er,cR,hn,SB.er]
   simp only[SC.er,St.fG,bk,List.length_map,w1,w2,and_self,if_true,Ty.er,af.Io,Mode.anz]
  ·cases hx
 ·cases hx
def zt (σ:af):List SC->(List TD->Bool->af->Option ρ)->Option ρ
 |[],k=>k [] true σ
 |c::cs,k=>V8 σ c fun t x o σ1=>zt σ1 cs fun l o' σ2=>k (⟨t,x⟩::l) (o&&o') σ2
theorem Fs:∀{cs:List SC} {σ:af} {k:List TD->Bool->af->Option ρ} {r:ρ},zt σ cs k=some r->
  ∃(l:List TD) (o:Bool) (σ1:af),σ.er.fg (cs.map SC.er)=some (cA l,o,σ1.er)/\k l o σ1=some r
 |[],σ,k,r,hx=>⟨[],true,σ,rfl,hx⟩
 |c::cs,σ,k,r,hx=>by
  simp only[zt] at hx
  obtain⟨t,x,o,σ1,h1,h2⟩:=ap3 hx
  obtain⟨l,o',σ2,h3,h4⟩:=Fs h2
  exact⟨⟨t,x⟩::l,o&&o',σ2,by simp[St.fg,h1,h3,cA],h4⟩
def Kx (ts:List Ty) (σ:af):List SV->(List (Ty.DL ts)->Bool->af->Option ρ)->Option ρ
 |[],k=>k [] true σ
 |v::vs,k=>match v.cells? with
  |some (_,cs)=>zt σ cs fun l o σ1=>match qA ts l with
   |some e=>Kx ts σ1 vs fun es o' σ2=>k (e::es) (o&&o') σ2
   |none=>none
  |none=>none
theorem adO:∀{cs:List ah} {σ σ1:St} {l:List C} {o:Bool},σ.fg cs=some (l,o,σ1)->l.length=cs.length
 |[],σ,σ1,l,o,h=>by simp[St.fg] at h;rw[h.1];rfl
 |c::cs,σ,σ1,l,o,h=>by
  simp only[St.fg] at h
  split at h
  ·split at h
   ·rename_i e2
    injection h with h
    injection h with h h2
    subst h
    simp[adO e2]
   ·cases h
  ·cases h
theorem ads {ts:List Ty}:∀{vs:List SV} {σ:af} {k:List (Ty.DL ts)->Bool->af->Option ρ} {r:ρ},Kx ts σ vs k=some r->
  ∃(es:List (Ty.DL ts)) (o:Bool) (σ1:af),σ.er.kY ts.length (vs.map SV.er)=some (List.map (Ty.aJ ts) es,o,σ1.er)/\k es o σ1=some r
 |[],σ,k,r,hx=>⟨[],true,σ,rfl,hx⟩
 |v::vs,σ,k,r,hx=>by
  simp only[Kx] at hx
  split at hx
  ·rename_i b cs hc
   obtain⟨l,o,σ1,h1,h2⟩:=Fs hx
   split at h2
   ·rename_i e he
    obtain⟨es,o',σ2,h3,h4⟩:=ads h2
    have hl:(cs.map SC.er).length=ts.length:=by
     have a:=adO h1
     rw[<-wS he,Ty.Df] at a
     exact a.symm
    refine⟨e::es,o&&o',σ2,?_,h4⟩
    simp only[List.map_cons,St.kY,SV.lx hc,hl,if_true,h1,h3,wS he]
   ·cases h2
  ·cases hx
end
end Go.Am
