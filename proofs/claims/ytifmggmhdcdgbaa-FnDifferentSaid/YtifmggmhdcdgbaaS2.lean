/- S2: the typed evaluator's helpers. No condition. -/
import Derived.Test.YtifmggmhdcdgbaaS1
set_option linter.unusedVariables false
namespace Go.Am
def eH {ρ:Type} (b:Bool) (x:Option ρ):Option ρ:=match b with|true=>x|false=>none
def cF {ρ:Type} (a b:Nat) (x:Option ρ):Option ρ:=match Nat.beq a b with|true=>x|false=>none
theorem bT {ρ:Type} {b:Bool} {x:Option ρ} {r:ρ} (h:eH b x=some r):b=true/\x=some r:=by
 cases b with
 |true=>exact⟨rfl,h⟩
 |false=>cases h
theorem bc {ρ:Type} {a b:Nat} {x:Option ρ} {r:ρ} (h:cF a b x=some r):a=b/\x=some r:=by
 unfold cF at h
 split at h
 ·rename_i e;exact⟨Nat.eq_of_beq_eq_true e,h⟩
 ·cases h
abbrev TD:=(t:Ty)×t.D
inductive cB where
 |t (n:Nat)
 |k (v:SV)
def cB.er:cB->MO
 |.t n=>.t n
 |.k v=>.k v.er
def ah.ev (σ:ah):cB->SV
 |.t n=>σ.env n
 |.k v=>v
theorem ah.c8 (σ:ah) (x:cB):σ.er.ev x.er=(σ.ev x).er:=by cases x<;>rfl
def SV.cells?:SV->Option (Bool×List SC)
 |.one .bh=>none
 |.one c=>some (false,[c])
 |.agg cs=>some (true,cs)
 |.bn _=>none
theorem SV.lU {v:SV} {b:Bool} {cs:List SC} (h:v.cells?=some (b,cs)):v.er.cells?=some (b,cs.map SC.er):=by
 cases v with
 |one c=>cases c<;>simp[SV.cells?] at h<;>(obtain⟨rfl,rfl⟩:=h;rfl)
 |agg cs'=>simp[SV.cells?] at h;obtain⟨rfl,rfl⟩:=h;rfl
 |bn xs=>simp[SV.cells?] at h
def zA:Bool->List SC->SV
 |true,cs=>.agg cs
 |false,[c]=>.one c
 |false,_=>.one .bh
theorem CC (b:Bool) (cs:List SC):(zA b cs).er=kQ b (cs.map SC.er):=by
 cases b with
 |true=>rfl
 |false=>match cs with
  |[]=>rfl
  |[c]=>rfl
  |_::_::_=>rfl
section
variable {ρ:Type}
def HB (op:BinOp) (k:IntKind) (a b:Int) (c:(t:Ty)->t.D->Option ρ):Option ρ:=
 match op with
 |.add=>c (.int k) (aY k a b)
 |.sub=>c (.int k) (nh k a b)
 |.mul=>c (.int k) (cv k a b)
 |.quo=>(E3 k a b).aa fun x=>c (.int k) x
 |.rem=>(fL a b).aa fun x=>c (.int k) x
 |.and=>c (.int k) (pq k a b)
 |.or=>c (.int k) (orI k a b)
 |.xor=>c (.int k) (Vg k a b)
 |.eql=>c .bool (fE a b)
 |.neq=>c .bool (eu a b)
 |.lss=>c .bool (bC a b)
 |.leq=>c .bool (n4 a b)
 |.gtr=>c .bool (bC b a)
 |.geq=>c .bool (n4 b a)
 |_=>none
theorem adn {op:BinOp} {k:IntKind} {a b:Int} {c:(t:Ty)->t.D->Option ρ} {r:ρ} (h:HB op k a b c=some r):
    ∃(t:Ty) (x:t.D),z6 op k a b=some (t.er x)/\c t x=some r:=by
  cases op<;>first
    |exact⟨.int k,_,rfl,h⟩
    |exact⟨.bool,_,rfl,h⟩
    |(simp only[HB,E3,fL,eR] at h
      obtain⟨x,h1,h2⟩:=h
      split at h1
      · cases h1
      · rename_i hb
        injection h1 with h1
        subst h1
        exact⟨.int k,_,by simp[z6,hb,Ty.er],h2⟩)
    |(simp[HB] at h)
def KP (op:BinOp) (k:IntKind) (a b:Int) (c:(t:Ty)->t.D->Option ρ):Option ρ:=
 match op with
 |.shl=>(aby k a b).aa fun x=>c (.int k) x
 |.shr=>(tH k a b).aa fun x=>c (.int k) x
 |_=>none
theorem anQ {op:BinOp} {k:IntKind} {a b:Int} {c:(t:Ty)->t.D->Option ρ} {r:ρ} (h:KP op k a b c=some r):
    ∃(t:Ty) (x:t.D),Ff op k a b=some (t.er x)/\c t x=some r:=by
  cases op<;>first
    |(simp only[KP,aby,tH,eR] at h
      obtain⟨x,h1,h2⟩:=h
      split at h1
      · cases h1
      · rename_i hb
        injection h1 with h1
        subst h1
        exact⟨.int k,_,by simp[Ff,hb,Ty.er],h2⟩)
    |(simp[KP] at h)
def Mi (op:BinOp) (x y:SV) (c:(t:Ty)->t.D->Option ρ):Option ρ:=
 match x,y with
 |.one (.v (.int k) a),.one (.v (.int k') b)=>match BinOp.yW op with
  |true=>KP op k a b c
  |false=>match decide (k=k') with
   |true=>HB op k a b c
   |false=>none
 |_,_=>none
theorem ado {op:BinOp} {x y:SV} {c:(t:Ty)->t.D->Option ρ} {r:ρ} (h:Mi op x y c=some r):
  ∃(t:Ty) (z:t.D),vQ op x.er y.er=some (t.er z)/\c t z=some r:=by
 unfold Mi at h
 split at h
 ·rename_i k a k' b
  split at h
  ·rename_i e
   obtain⟨t,z,h1,h2⟩:=anQ h
   exact⟨t,z,by simp[SV.er,SC.er,Ty.er,vQ,e];exact h1,h2⟩
  ·rename_i e
   split at h
   ·rename_i hk
    have hk:=of_decide_eq_true hk
    obtain⟨t,z,h1,h2⟩:=adn h
    exact⟨t,z,by simp[SV.er,SC.er,Ty.er,vQ,e,hk];subst hk;exact h1,h2⟩
   ·cases h
 ·cases h
def Mh (op:BinOp) (x y:SV) (c:(t:Ty)->t.D->Option ρ):Option ρ:=
 match x,y with
 |.one (.v .bool a),.one (.v .bool b)=>match op with
  |.eql=>c .bool (eqB a b)
  |.neq=>c .bool (neB a b)
  |_=>none
 |_,_=>none
theorem adm {op:BinOp} {x y:SV} {c:(t:Ty)->t.D->Option ρ} {r:ρ} (h:Mh op x y c=some r):
  ∃(t:Ty) (z:t.D),z5 op x.er y.er=some (t.er z)/\c t z=some r:=by
 unfold Mh at h
 split at h
 ·rename_i a b
  split at h
  ·exact⟨.bool,_,rfl,h⟩
  ·exact⟨.bool,_,rfl,h⟩
  ·cases h
 ·cases h
def U2 (op:UnOp) (x:SV) (c:(t:Ty)->t.D->Option ρ):Option ρ:=
 match x with
 |.one (.v .bool a)=>match op with
  |.not=>c .bool (fC a)
  |_=>none
 |.one (.v (.int k) a)=>match op with
  |.neg=>c (.int k) (alN k a)
  |_=>none
 |_=>none
theorem aoB {op:UnOp} {x:SV} {c:(t:Ty)->t.D->Option ρ} {r:ρ} (h:U2 op x c=some r):
  ∃(t:Ty) (z:t.D),CE op x.er=some (t.er z)/\c t z=some r:=by
 unfold U2 at h
 split at h
 ·rename_i a
  split at h
  ·exact⟨.bool,_,rfl,h⟩
  ·cases h
 ·rename_i k a
  split at h
  ·exact⟨.int k,_,rfl,h⟩
  ·cases h
 ·cases h
def SV.cY:SV->Option Int
 |.one (.v (.int k) n)=>some n
 |_=>none
theorem SV.yV {v:SV} {n:Int} (h:v.cY=some n):v.er.cY=some n:=by
 unfold SV.cY at h
 split at h
 ·injection h with h;subst h;rfl
 ·cases h
def Fk (h:Nat->Option SB) (p:SC) (sz:Nat) (c:List SC->Option ρ):Option ρ:=
 match p with
 |.ptr n k az off=>match h n with
  |some (.box cs)=>cF k 0 (match sub cs off sz with|some l=>c l|none=>none)
  |some (.row _ m ts xs)=>cF az ts.length ((dJ xs k).aa fun e=>
   match sub (match m with|.live=>Ty.live n k ts.length 0 ts e|_=>Ty.cells ts e) off sz with
   |some l=>c l
   |none=>none)
  |none=>none
 |.ca ts x off=>match sub (Ty.cells ts x) off sz with|some l=>c l|none=>none
 |_=>none
theorem Uj {h:Nat->Option SB} {p:SC} {sz:Nat} {c:List SC->Option ρ} {r:ρ} (hx:Fk h p sz c=some r):
  ∃l,loadAt (cM h) p.er sz=some (l.map SC.er)/\c l=some r:=by
 unfold Fk at hx
 split at hx
 ·rename_i n k az off
  split at hx
  ·rename_i cs hn
   have bo:=(bc hx).1;replace hx:=(bc hx).2;subst bo
   split at hx
   ·rename_i l e
    refine⟨l,?_,hx⟩
    simp[SC.er,loadAt,cM,hn,SB.er,tM,e]
   ·cases hx
  ·rename_i gr m ts xs hn
   have bo:=(bc hx).1;replace hx:=(bc hx).2;subst bo
   rw[eR] at hx
   obtain⟨e,he,hx⟩:=hx
   replace he:xs[k]? =some e:=he
   split at hx
   ·rename_i l hl
    refine⟨l,?_,hx⟩
    have mO:(List.map (Ty.aF ts) xs)[k]? =some (Ty.aF ts e):=by rw[List.getElem?_map,he];rfl
    simp only[SC.er,loadAt,cM,hn,Option.map_some,SB.er,if_true,mO]
    cases m with
    |live=>
     simp only at hl
     have:=congrArg (Option.map (List.map SC.er)) hl
     rw[<-tM,Ty.Z1,aol] at this
     cases hs:sub (Ty.aF ts e) off sz with
     |none=>rw[hs] at this;cases this
     |some l'=>rw[hs] at this;simpa using this
    |ab=>
     simp only at hl
     have:=congrArg (Option.map (List.map SC.er)) hl
     rw[<-tM,Ty.lU,tM] at this
     cases hs:sub (Ty.aF ts e) off sz with
     |none=>rw[hs] at this;cases this
     |some l'=>rw[hs] at this;simpa using this
    |aA=>
     simp only at hl
     have:=congrArg (Option.map (List.map SC.er)) hl
     rw[<-tM,Ty.lU,tM] at this
     cases hs:sub (Ty.aF ts e) off sz with
     |none=>rw[hs] at this;cases this
     |some l'=>rw[hs] at this;simpa using this
   ·cases hx
  ·cases hx
 ·rename_i ts x off
  split at hx
  ·rename_i l hl
   refine⟨l,?_,hx⟩
   have:=congrArg (Option.map (List.map SC.er)) hl
   rw[<-tM,Ty.lU,tM] at this
   simpa[SC.er,loadAt] using this
  ·cases hx
 ·cases hx
theorem ML:∀{ts:List Ty} {e:Ty.DL ts} {off:Nat} {x:TD},(Ty.gK ts e)[off]? =some x->(Ty.aF ts e)[off]? =some (x.1.er x.2):=by
 intro ts e off x h
 rw[<-Ty.pw,cf,List.getElem?_map,h]
 rfl
def xv (h:Nat->Option SB) (c:SC) (k:(t:Ty)->t.D->Option ρ):Option ρ:=
 match c with
 |.v t x=>k t x
 |.nil ts=>match ts with
  |[]=>none
  |t::us=>k (.list (t::us)) ([]:List (Ty.DL (t::us)))
 |.sl n sz lo len=>match h n with
  |some (.row _ _ ts xs)=>cF ts.length sz ((dg xs lo len).aa fun ys=>k (.list ts) ys)
  |_=>none
 |.bx n kk az off sz len=>match h n with
  |some (.row _ .live ts xs)=>cF ts.length az ((dJ xs kk).aa fun e=>match(Ty.gK ts e)[off]? with
   |some ⟨t,x⟩=>k t x
   |none=>none)
  |_=>none
 |_=>none
theorem acN {ts:List Ty} {xs ys:List (Ty.DL ts)} {lo len:Nat} (h:dg xs lo len=some ys):lo+len<=xs.length/\((List.map (Ty.aF ts) xs).drop lo).take len=List.map (Ty.aF ts) ys:=by
 unfold dg at h
 split at h
 ·rename_i hl
  injection h with h
  subst h
  exact⟨hl,by simp[List.map_drop,List.map_take]⟩
 ·cases h
theorem CB {h:Nat->Option SB} {c:SC} {k:(t:Ty)->t.D->Option ρ} {r:ρ} (hx:xv h c k=some r):
  ∃(t:Ty) (x:t.D),bR (cM h) c.er=some (t.er x)/\k t x=some r:=by
 unfold xv at hx
 split at hx
 ·exact⟨_,_,rfl,hx⟩
 ·split at hx
  ·cases hx
  ·rename_i t us
   exact⟨.list (t::us),[],by simp[SC.er,bR,Ty.er],hx⟩
 ·rename_i n sz lo len
  split at hx
  ·rename_i gr m ts xs hn
   have bo:=(bc hx).1;replace hx:=(bc hx).2;subst bo
   rw[eR] at hx
   obtain⟨ys,hw,hx⟩:=hx
   obtain⟨w1,w2⟩:=acN hw
   refine⟨.list ts,ys,?_,hx⟩
   simp only[SC.er,bR,cM,hn,Option.map_some,SB.er,List.length_map,Ty.er,w2,w1,and_self,if_true]
  ·cases hx
 ·rename_i n kk az off sz len
  split at hx
  ·rename_i gr ts xs hn
   have bo:=(bc hx).1;replace hx:=(bc hx).2;subst bo
   rw[eR] at hx
   obtain⟨e,he,hx⟩:=hx
   replace he:xs[kk]? =some e:=he
   split at hx
   ·rename_i t x hd
    refine⟨t,x,?_,hx⟩
    have:=ML hd
    simp only[SC.er,bR,cM,hn,Option.map_some,SB.er,if_true,List.getElem?_map,he,Option.bind_some,this]
   ·cases hx
  ·cases hx
 ·cases hx
def zx (h:Nat->Option SB):List SC->(List TD->Option ρ)->Option ρ
 |[],k=>k []
 |c::cs,k=>xv h c fun t x=>zx h cs fun l=>k (⟨t,x⟩::l)
theorem FB {h:Nat->Option SB}:∀{cs:List SC} {k:List TD->Option ρ} {r:ρ},zx h cs k=some r->
  ∃l,gx (cM h) (cs.map SC.er)=some (cf l)/\k l=some r
 |[],k,r,hx=>⟨[],rfl,hx⟩
 |c::cs,k,r,hx=>by
  simp only[zx] at hx
  obtain⟨t,x,h1,h2⟩:=CB hx
  obtain⟨l,h3,h4⟩:=FB h2
  exact⟨⟨t,x⟩::l,by simp[gx,h1,h3,cf],h4⟩
abbrev bP:=K×List TD
def bP.er (d:bP):Dv:=(d.1,cf d.2)
def UQ (h:Nat->Option SB) (v:SV) (k:bP->Option ρ):Option ρ:=
 match v with
 |.one (.ptr n kk sz off)=>match h n with
  |some (.box cs)=>cF kk 0 (cF off 0 (zx h cs fun l=>k (.ptr,l)))
  |_=>none
 |.one (.ca ts x off)=>cF off 0 (k (.ptr,Ty.gK ts x))
 |.one c=>xv h c fun t x=>k (.one,[⟨t,x⟩])
 |.agg cs=>zx h cs fun l=>k (.agg,l)
 |.bn _=>none
theorem aon {h:Nat->Option SB} {v:SV} {k:bP->Option ρ} {r:ρ} (hx:UQ h v k=some r):
  ∃d:bP,gZ (cM h) v.er=some d.er/\k d=some r:=by
 unfold UQ at hx
 split at hx
 ·rename_i n kk sz off
  split at hx
  ·rename_i cs hn
   have bo:=(bc hx).1;replace hx:=(bc hx).2;subst bo
   have bo:=(bc hx).1;replace hx:=(bc hx).2;subst bo
   obtain⟨l,h1,h2⟩:=FB hx
   exact⟨(.ptr,l),by simp[SV.er,SC.er,gZ,cM,hn,SB.er];exact⟨_,h1,rfl⟩,h2⟩
  ·cases hx
 ·rename_i ts x off
  have bo:=(bc hx).1;replace hx:=(bc hx).2;subst bo
  exact⟨(.ptr,Ty.gK ts x),by simp[SV.er,SC.er,gZ,bP.er,Ty.pw],hx⟩
 ·rename_i c hp hd
  obtain⟨t,x,h1,h2⟩:=CB hx
  refine⟨(.one,[⟨t,x⟩]),?_,h2⟩
  cases c with
  |ptr n kk sz off=>exact absurd rfl (hp n kk sz off)
  |ca ts x off=>exact absurd rfl (hd ts x off)
  |v t' x'=>simp only[SV.er,SC.er,gZ] at h1⊢;rw[h1];rfl
  |nil ts=>simp only[SV.er,SC.er,gZ] at h1⊢;rw[h1];rfl
  |sl n sz lo len=>simp only[SV.er,SC.er,gZ] at h1⊢;rw[h1];rfl
  |bx n a b c' d e=>simp only[SV.er,SC.er,gZ] at h1⊢;rw[h1];rfl
  |cD n a b c' d e=>simp only[SV.er,SC.er,gZ] at h1⊢;rw[h1];rfl
  |fn f bW=>simp only[SV.er,SC.er,gZ] at h1⊢;rw[h1];rfl
  |bh=>simp only[SV.er,SC.er,gZ] at h1⊢;rw[h1];rfl
 ·obtain⟨l,h1,h2⟩:=FB hx
  exact⟨(.agg,l),by simp[SV.er,gZ,h1,bP.er],h2⟩
 ·cases hx
def FA (h:Nat->Option SB):List SV->(List bP->Option ρ)->Option ρ
 |[],k=>k []
 |v::vs,k=>UQ h v fun d=>FA h vs fun l=>k (d::l)
theorem UR {h:Nat->Option SB}:∀{vs:List SV} {k:List bP->Option ρ} {r:ρ},FA h vs k=some r->
  ∃l,kj (cM h) (vs.map SV.er)=some (l.map bP.er)/\k l=some r
 |[],k,r,hx=>⟨[],rfl,hx⟩
 |v::vs,k,r,hx=>by
  simp only[FA] at hx
  obtain⟨d,h1,h2⟩:=aon hx
  obtain⟨l,h3,h4⟩:=UR h2
  exact⟨d::l,by simp[kj,h1,h3],h4⟩
def Mode.own:Mode->Bool
 |.aA=>false
 |_=>true
theorem Mode.al9 (m:Mode):decide (m≠ .aA)=m.own:=by cases m<;>rfl
def UK (σ:ah) (c:SC) (k:(t:Ty)->t.D->Bool->ah->Option ρ):Option ρ:=
 match c with
 |.v t x=>k t x t.d7 σ
 |.nil ts=>match ts with
  |[]=>none
  |t::us=>k (.list (t::us)) ([]:List (Ty.DL (t::us))) true σ
 |.sl n sz lo len=>match σ.h n with
  |some (.row _ m ts xs)=>cF ts.length sz (cF lo 0 ((dq xs len).aa fun ys=>k (.list ts) ys m.own (σ.del n)))
  |_=>none
 |_=>none
theorem acv {ts:List Ty} {xs ys:List (Ty.DL ts)} {len:Nat} (h:dq xs len=some ys):len<=xs.length/\(List.map (Ty.aF ts) xs).take len=List.map (Ty.aF ts) ys:=by
 unfold dq at h
 split at h
 ·rename_i hl
  injection h with h
  subst h
  exact⟨hl,by simp[List.map_take]⟩
 ·cases h
theorem aoe {σ:ah} {c:SC} {k:(t:Ty)->t.D->Bool->ah->Option ρ} {r:ρ} (hx:UK σ c k=some r):
  ∃(t:Ty) (x:t.D) (o:Bool) (σ1:ah),σ.er.fO c.er=some (t.er x,o,σ1.er)/\k t x o σ1=some r:=by
 unfold UK at hx
 split at hx
 ·rename_i t x
  exact⟨_,_,_,_,by simp only[SC.er,St.fO,Ty.xl],hx⟩
 ·split at hx
  ·cases hx
  ·rename_i t us
   exact⟨.list (t::us),[],true,σ,by simp[SC.er,St.fO,Ty.er],hx⟩
 ·rename_i n sz lo len
  split at hx
  ·rename_i gr m ts xs hn
   have bo:=(bc hx).1;replace hx:=(bc hx).2;subst bo
   have bo:=(bc hx).1;replace hx:=(bc hx).2;subst bo
   rw[eR] at hx
   obtain⟨ys,hw,hx⟩:=hx
   obtain⟨w1,w2⟩:=acv hw
   refine⟨.list ts,ys,m.own,σ.del n,?_,hx⟩
   have bm:σ.er.h n=some (.row gr m ts.length (List.map (Ty.aF ts) xs)):=by simp[ah.er,cM,hn,SB.er]
   simp only[SC.er,St.fO,bm,List.length_map,w1,w2,and_self,if_true,Ty.er,ah.H8,Mode.al9]
  ·cases hx
 ·cases hx
def zu (σ:ah):List SC->(List TD->Bool->ah->Option ρ)->Option ρ
 |[],k=>k [] true σ
 |c::cs,k=>UK σ c fun t x o σ1=>zu σ1 cs fun l o' σ2=>k (⟨t,x⟩::l) (o&&o') σ2
theorem Fx:∀{cs:List SC} {σ:ah} {k:List TD->Bool->ah->Option ρ} {r:ρ},zu σ cs k=some r->
  ∃(l:List TD) (o:Bool) (σ1:ah),σ.er.ft (cs.map SC.er)=some (cf l,o,σ1.er)/\k l o σ1=some r
 |[],σ,k,r,hx=>⟨[],true,σ,rfl,hx⟩
 |c::cs,σ,k,r,hx=>by
  simp only[zu] at hx
  obtain⟨t,x,o,σ1,h1,h2⟩:=aoe hx
  obtain⟨l,o',σ2,h3,h4⟩:=Fx h2
  exact⟨⟨t,x⟩::l,o&&o',σ2,by simp[St.ft,h1,h3,cf],h4⟩
def K9 (ts:List Ty) (σ:ah):List SV->(List (Ty.DL ts)->Bool->ah->Option ρ)->Option ρ
 |[],k=>k [] true σ
 |v::vs,k=>match v.cells? with
  |some (_,cs)=>zu σ cs fun l o σ1=>match qn ts l with
   |some e=>K9 ts σ1 vs fun es o' σ2=>k (e::es) (o&&o') σ2
   |none=>none
  |none=>none
theorem acA:∀{cs:List ai} {σ σ1:St} {l:List C} {o:Bool},σ.ft cs=some (l,o,σ1)->l.length=cs.length
 |[],σ,σ1,l,o,h=>by simp[St.ft] at h;rw[h.1];rfl
 |c::cs,σ,σ1,l,o,h=>by
  simp only[St.ft] at h
  split at h
  ·split at h
   ·rename_i e2
    injection h with h
    injection h with h h2
    subst h
    simp[acA e2]
   ·cases h
  ·cases h
theorem ab6 {ts:List Ty}:∀{vs:List SV} {σ:ah} {k:List (Ty.DL ts)->Bool->ah->Option ρ} {r:ρ},K9 ts σ vs k=some r->
  ∃(es:List (Ty.DL ts)) (o:Bool) (σ1:ah),σ.er.kP ts.length (vs.map SV.er)=some (List.map (Ty.aF ts) es,o,σ1.er)/\k es o σ1=some r
 |[],σ,k,r,hx=>⟨[],true,σ,rfl,hx⟩
 |v::vs,σ,k,r,hx=>by
  simp only[K9] at hx
  split at hx
  ·rename_i b cs hc
   obtain⟨l,o,σ1,h1,h2⟩:=Fx hx
   split at h2
   ·rename_i e he
    obtain⟨es,o',σ2,h3,h4⟩:=ab6 h2
    have hl:(cs.map SC.er).length=ts.length:=by
     have a:=acA h1
     rw[<-w4 he,Ty.Dk] at a
     exact a.symm
    refine⟨e::es,o&&o',σ2,?_,h4⟩
    simp only[List.map_cons,St.kP,SV.lU hc,hl,if_true,h1,h3,w4 he]
   ·cases h2
  ·cases hx
end
end Go.Am
