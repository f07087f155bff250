/- S2: the typed evaluator's helpers. No condition. -/
import Derived.Test.YtbgmbplglejidaaS1
set_option linter.unusedVariables false
namespace Go.Am
def e7 {ρ:Type} (b:Bool) (x:Option ρ):Option ρ:=match b with|true=>x|false=>none
def cJ {ρ:Type} (a b:Nat) (x:Option ρ):Option ρ:=match Nat.beq a b with|true=>x|false=>none
theorem cm {ρ:Type} {b:Bool} {x:Option ρ} {r:ρ} (h:e7 b x=some r):b=true/\x=some r:=by
 cases b with
 |true=>exact⟨rfl,h⟩
 |false=>cases h
theorem bg {ρ:Type} {a b:Nat} {x:Option ρ} {r:ρ} (h:cJ a b x=some r):a=b/\x=some r:=by
 unfold cJ at h
 split at h
 ·rename_i e;exact⟨Nat.eq_of_beq_eq_true e,h⟩
 ·cases h
abbrev TD:=(t:Ty)×t.D
inductive cC where
 |t (n:Nat)
 |k (v:SV)
def cC.er:cC->MO
 |.t n=>.t n
 |.k v=>.k v.er
def af.ev (σ:af):cC->SV
 |.t n=>σ.env n
 |.k v=>v
theorem af.di (σ:af) (x:cC):σ.er.ev x.er=(σ.ev x).er:=by cases x<;>rfl
def SV.cells?:SV->Option (Bool×List SC)
 |.one .bm=>none
 |.one c=>some (false,[c])
 |.agg cs=>some (true,cs)
 |.bn _=>none
theorem SV.lx {v:SV} {b:Bool} {cs:List SC} (h:v.cells?=some (b,cs)):v.er.cells?=some (b,cs.map SC.er):=by
 cases v with
 |one c=>cases c<;>simp[SV.cells?] at h<;>(obtain⟨rfl,rfl⟩:=h;rfl)
 |agg cs'=>simp[SV.cells?] at h;obtain⟨rfl,rfl⟩:=h;rfl
 |bn xs=>simp[SV.cells?] at h
def zu:Bool->List SC->SV
 |true,cs=>.agg cs
 |false,[c]=>.one c
 |false,_=>.one .bm
theorem Cr (b:Bool) (cs:List SC):(zu b cs).er=kV b (cs.map SC.er):=by
 cases b with
 |true=>rfl
 |false=>match cs with
  |[]=>rfl
  |[c]=>rfl
  |_::_::_=>rfl
section
variable {ρ:Type}
def Hw (op:BinOp) (k:IntKind) (a b:Int) (c:(t:Ty)->t.D->Option ρ):Option ρ:=
 match op with
 |.add=>c (.int k) (bS k a b)
 |.sub=>c (.int k) (eG k a b)
 |.mul=>c (.int k) (c7 k a b)
 |.quo=>(y8 k a b).aa fun x=>c (.int k) x
 |.rem=>(jH a b).aa fun x=>c (.int k) x
 |.and=>c (.int k) (pO k a b)
 |.or=>c (.int k) (orI k a b)
 |.xor=>c (.int k) (Vw k a b)
 |.eql=>c .bool (cz a b)
 |.neq=>c .bool (hZ a b)
 |.lss=>c .bool (bO a b)
 |.leq=>c .bool (gC a b)
 |.gtr=>c .bool (bO b a)
 |.geq=>c .bool (gC b a)
 |_=>none
theorem adN {op:BinOp} {k:IntKind} {a b:Int} {c:(t:Ty)->t.D->Option ρ} {r:ρ} (h:Hw op k a b c=some r):
    ∃(t:Ty) (x:t.D),Ah op k a b=some (t.er x)/\c t x=some r:=by
  cases op<;>first
    |exact⟨.int k,_,rfl,h⟩
    |exact⟨.bool,_,rfl,h⟩
    |(simp only[Hw,y8,jH,eP] at h
      obtain⟨x,h1,h2⟩:=h
      split at h1
      · cases h1
      · rename_i hb
        injection h1 with h1
        subst h1
        exact⟨.int k,_,by simp[Ah,hb,Ty.er],h2⟩)
    |(simp[Hw] at h)
def J5 (op:BinOp) (k:IntKind) (a b:Int) (c:(t:Ty)->t.D->Option ρ):Option ρ:=
 match op with
 |.shl=>(zi k a b).aa fun x=>c (.int k) x
 |.shr=>(tf k a b).aa fun x=>c (.int k) x
 |_=>none
theorem aom {op:BinOp} {k:IntKind} {a b:Int} {c:(t:Ty)->t.D->Option ρ} {r:ρ} (h:J5 op k a b c=some r):
    ∃(t:Ty) (x:t.D),EX op k a b=some (t.er x)/\c t x=some r:=by
  cases op<;>first
    |(simp only[J5,zi,tf,eP] at h
      obtain⟨x,h1,h2⟩:=h
      split at h1
      · cases h1
      · rename_i hb
        injection h1 with h1
        subst h1
        exact⟨.int k,_,by simp[EX,hb,Ty.er],h2⟩)
    |(simp[J5] at h)
def LY (op:BinOp) (x y:SV) (c:(t:Ty)->t.D->Option ρ):Option ρ:=
 match x,y with
 |.one (.v (.int k) a),.one (.v (.int k') b)=>match BinOp.yJ op with
  |true=>J5 op k a b c
  |false=>match decide (k=k') with
   |true=>Hw op k a b c
   |false=>none
 |_,_=>none
theorem adO {op:BinOp} {x y:SV} {c:(t:Ty)->t.D->Option ρ} {r:ρ} (h:LY op x y c=some r):
  ∃(t:Ty) (z:t.D),vD op x.er y.er=some (t.er z)/\c t z=some r:=by
 unfold LY at h
 split at h
 ·rename_i k a k' b
  split at h
  ·rename_i e
   obtain⟨t,z,h1,h2⟩:=aom h
   exact⟨t,z,by simp[SV.er,SC.er,Ty.er,vD,e];exact h1,h2⟩
  ·rename_i e
   split at h
   ·rename_i hk
    have hk:=of_decide_eq_true hk
    obtain⟨t,z,h1,h2⟩:=adN h
    exact⟨t,z,by simp[SV.er,SC.er,Ty.er,vD,e,hk];subst hk;exact h1,h2⟩
   ·cases h
 ·cases h
def LX (op:BinOp) (x y:SV) (c:(t:Ty)->t.D->Option ρ):Option ρ:=
 match x,y with
 |.one (.v .bool a),.one (.v .bool b)=>match op with
  |.eql=>c .bool (eqB a b)
  |.neq=>c .bool (neB a b)
  |_=>none
 |_,_=>none
theorem adM {op:BinOp} {x y:SV} {c:(t:Ty)->t.D->Option ρ} {r:ρ} (h:LX op x y c=some r):
  ∃(t:Ty) (z:t.D),Ag op x.er y.er=some (t.er z)/\c t z=some r:=by
 unfold LX at h
 split at h
 ·rename_i a b
  split at h
  ·exact⟨.bool,_,rfl,h⟩
  ·exact⟨.bool,_,rfl,h⟩
  ·cases h
 ·cases h
def Vk (op:UnOp) (x:SV) (c:(t:Ty)->t.D->Option ρ):Option ρ:=
 match x with
 |.one (.v .bool a)=>match op with
  |.not=>c .bool (ef a)
  |_=>none
 |.one (.v (.int k) a)=>match op with
  |.neg=>c (.int k) (alG k a)
  |_=>none
 |_=>none
theorem apr {op:UnOp} {x:SV} {c:(t:Ty)->t.D->Option ρ} {r:ρ} (h:Vk op x c=some r):
  ∃(t:Ty) (z:t.D),Ct op x.er=some (t.er z)/\c t z=some r:=by
 unfold Vk at h
 split at h
 ·rename_i a
  split at h
  ·exact⟨.bool,_,rfl,h⟩
  ·cases h
 ·rename_i k a
  split at h
  ·exact⟨.int k,_,rfl,h⟩
  ·cases h
 ·cases h
def SV.df:SV->Option Int
 |.one (.v (.int k) n)=>some n
 |_=>none
theorem SV.yH {v:SV} {n:Int} (h:v.df=some n):v.er.df=some n:=by
 unfold SV.df at h
 split at h
 ·injection h with h;subst h;rfl
 ·cases h
def E5 (h:Nat->Option SB) (p:SC) (sz:Nat) (c:List SC->Option ρ):Option ρ:=
 match p with
 |.ptr n k az off=>match h n with
  |some (.box cs)=>cJ k 0 (match sub cs off sz with|some l=>c l|none=>none)
  |some (.row _ m ts xs)=>cJ az ts.length ((dv xs k).aa fun e=>
   match sub (match m with|.live=>Ty.live n k ts.length 0 ts e|_=>Ty.cells ts e) off sz with
   |some l=>c l
   |none=>none)
  |none=>none
 |.cu ts x off=>match sub (Ty.cells ts x) off sz with|some l=>c l|none=>none
 |_=>none
theorem Uu {h:Nat->Option SB} {p:SC} {sz:Nat} {c:List SC->Option ρ} {r:ρ} (hx:E5 h p sz c=some r):
  ∃l,loadAt (cU h) p.er sz=some (l.map SC.er)/\c l=some r:=by
 unfold E5 at hx
 split at hx
 ·rename_i n k az off
  split at hx
  ·rename_i cs hn
   have bq:=(bg hx).1;replace hx:=(bg hx).2;subst bq
   split at hx
   ·rename_i l e
    refine⟨l,?_,hx⟩
    simp[SC.er,loadAt,cU,hn,SB.er,tj,e]
   ·cases hx
  ·rename_i gr m ts xs hn
   have bq:=(bg hx).1;replace hx:=(bg hx).2;subst bq
   rw[eP] at hx
   obtain⟨e,he,hx⟩:=hx
   replace he:xs[k]? =some e:=he
   split at hx
   ·rename_i l hl
    refine⟨l,?_,hx⟩
    have ni:(List.map (Ty.aH ts) xs)[k]? =some (Ty.aH ts e):=by rw[List.getElem?_map,he];rfl
    simp only[SC.er,loadAt,cU,hn,Option.map_some,SB.er,if_true,ni]
    cases m with
    |live=>
     simp only at hl
     have:=congrArg (Option.map (List.map SC.er)) hl
     rw[<-tj,Ty.Z6,ao2] at this
     cases hs:sub (Ty.aH ts e) off sz with
     |none=>rw[hs] at this;cases this
     |some l'=>rw[hs] at this;simpa using this
    |ae=>
     simp only at hl
     have:=congrArg (Option.map (List.map SC.er)) hl
     rw[<-tj,Ty.lx,tj] at this
     cases hs:sub (Ty.aH ts e) off sz with
     |none=>rw[hs] at this;cases this
     |some l'=>rw[hs] at this;simpa using this
    |aD=>
     simp only at hl
     have:=congrArg (Option.map (List.map SC.er)) hl
     rw[<-tj,Ty.lx,tj] at this
     cases hs:sub (Ty.aH ts e) off sz with
     |none=>rw[hs] at this;cases this
     |some l'=>rw[hs] at this;simpa using this
   ·cases hx
  ·cases hx
 ·rename_i ts x off
  split at hx
  ·rename_i l hl
   refine⟨l,?_,hx⟩
   have:=congrArg (Option.map (List.map SC.er)) hl
   rw[<-tj,Ty.lx,tj] at this
   simpa[SC.er,loadAt] using this
  ·cases hx
 ·cases hx
theorem Mt:∀{ts:List Ty} {e:Ty.DL ts} {off:Nat} {x:TD},(Ty.gT ts e)[off]? =some x->(Ty.aH ts e)[off]? =some (x.1.er x.2):=by
 intro ts e off x h
 rw[<-Ty.pS,cD,List.getElem?_map,h]
 rfl
def xd (h:Nat->Option SB) (c:SC) (k:(t:Ty)->t.D->Option ρ):Option ρ:=
 match c with
 |.v t x=>k t x
 |.nil ts=>match ts with
  |[]=>none
  |t::us=>k (.list (t::us)) ([]:List (Ty.DL (t::us)))
 |.sl n sz lo len=>match h n with
  |some (.row _ _ ts xs)=>cJ ts.length sz ((c6 xs lo len).aa fun ys=>k (.list ts) ys)
  |_=>none
 |.bz n kk az off sz len=>match h n with
  |some (.row _ .live ts xs)=>cJ ts.length az ((dv xs kk).aa fun e=>match(Ty.gT ts e)[off]? with
   |some ⟨t,x⟩=>k t x
   |none=>none)
  |_=>none
 |_=>none
theorem ac5 {ts:List Ty} {xs ys:List (Ty.DL ts)} {lo len:Nat} (h:c6 xs lo len=some ys):lo+len<=xs.length/\((List.map (Ty.aH ts) xs).drop lo).take len=List.map (Ty.aH ts) ys:=by
 unfold c6 at h
 split at h
 ·rename_i hl
  injection h with h
  subst h
  exact⟨hl,by simp[List.map_drop,List.map_take]⟩
 ·cases h
theorem Cq {h:Nat->Option SB} {c:SC} {k:(t:Ty)->t.D->Option ρ} {r:ρ} (hx:xd h c k=some r):
  ∃(t:Ty) (x:t.D),cg (cU h) c.er=some (t.er x)/\k t x=some r:=by
 unfold xd at hx
 split at hx
 ·exact⟨_,_,rfl,hx⟩
 ·split at hx
  ·cases hx
  ·rename_i t us
   exact⟨.list (t::us),[],by simp[SC.er,cg,Ty.er],hx⟩
 ·rename_i n sz lo len
  split at hx
  ·rename_i gr m ts xs hn
   have bq:=(bg hx).1;replace hx:=(bg hx).2;subst bq
   rw[eP] at hx
   obtain⟨ys,hw,hx⟩:=hx
   obtain⟨w1,w2⟩:=ac5 hw
   refine⟨.list ts,ys,?_,hx⟩
   simp only[SC.er,cg,cU,hn,Option.map_some,SB.er,List.length_map,Ty.er,w2,w1,and_self,if_true]
  ·cases hx
 ·rename_i n kk az off sz len
  split at hx
  ·rename_i gr ts xs hn
   have bq:=(bg hx).1;replace hx:=(bg hx).2;subst bq
   rw[eP] at hx
   obtain⟨e,he,hx⟩:=hx
   replace he:xs[kk]? =some e:=he
   split at hx
   ·rename_i t x hd
    refine⟨t,x,?_,hx⟩
    have:=Mt hd
    simp only[SC.er,cg,cU,hn,Option.map_some,SB.er,if_true,List.getElem?_map,he,Option.bind_some,this]
   ·cases hx
  ·cases hx
 ·cases hx
def zq (h:Nat->Option SB):List SC->(List TD->Option ρ)->Option ρ
 |[],k=>k []
 |c::cs,k=>xd h c fun t x=>zq h cs fun l=>k (⟨t,x⟩::l)
theorem Fk {h:Nat->Option SB}:∀{cs:List SC} {k:List TD->Option ρ} {r:ρ},zq h cs k=some r->
  ∃l,gG (cU h) (cs.map SC.er)=some (cD l)/\k l=some r
 |[],k,r,hx=>⟨[],rfl,hx⟩
 |c::cs,k,r,hx=>by
  simp only[zq] at hx
  obtain⟨t,x,h1,h2⟩:=Cq hx
  obtain⟨l,h3,h4⟩:=Fk h2
  exact⟨⟨t,x⟩::l,by simp[gG,h1,h3,cD],h4⟩
abbrev bT:=K×List TD
def bT.er (d:bT):Dv:=(d.1,cD d.2)
def U4 (h:Nat->Option SB) (v:SV) (k:bT->Option ρ):Option ρ:=
 match v with
 |.one (.ptr n kk sz off)=>match h n with
  |some (.box cs)=>cJ kk 0 (cJ off 0 (zq h cs fun l=>k (.ptr,l)))
  |_=>none
 |.one (.cu ts x off)=>cJ off 0 (k (.ptr,Ty.gT ts x))
 |.one c=>xd h c fun t x=>k (.one,[⟨t,x⟩])
 |.agg cs=>zq h cs fun l=>k (.agg,l)
 |.bn _=>none
theorem ao3 {h:Nat->Option SB} {v:SV} {k:bT->Option ρ} {r:ρ} (hx:U4 h v k=some r):
  ∃d:bT,ig (cU h) v.er=some d.er/\k d=some r:=by
 unfold U4 at hx
 split at hx
 ·rename_i n kk sz off
  split at hx
  ·rename_i cs hn
   have bq:=(bg hx).1;replace hx:=(bg hx).2;subst bq
   have bq:=(bg hx).1;replace hx:=(bg hx).2;subst bq
   obtain⟨l,h1,h2⟩:=Fk hx
   exact⟨(.ptr,l),by simp[SV.er,SC.er,ig,cU,hn,SB.er];exact⟨_,h1,rfl⟩,h2⟩
  ·cases hx
 ·rename_i ts x off
  have bq:=(bg hx).1;replace hx:=(bg hx).2;subst bq
  exact⟨(.ptr,Ty.gT ts x),by simp[SV.er,SC.er,ig,bT.er,Ty.pS],hx⟩
 ·rename_i c hp hd
  obtain⟨t,x,h1,h2⟩:=Cq hx
  refine⟨(.one,[⟨t,x⟩]),?_,h2⟩
  cases c with
  |ptr n kk sz off=>exact absurd rfl (hp n kk sz off)
  |cu ts x off=>exact absurd rfl (hd ts x off)
  |v t' x'=>simp only[SV.er,SC.er,ig] at h1⊢;rw[h1];rfl
  |nil ts=>simp only[SV.er,SC.er,ig] at h1⊢;rw[h1];rfl
  |sl n sz lo len=>simp only[SV.er,SC.er,ig] at h1⊢;rw[h1];rfl
  |bz n a b c' d e=>simp only[SV.er,SC.er,ig] at h1⊢;rw[h1];rfl
  |cQ n a b c' d e=>simp only[SV.er,SC.er,ig] at h1⊢;rw[h1];rfl
  |fn f cr=>simp only[SV.er,SC.er,ig] at h1⊢;rw[h1];rfl
  |bm=>simp only[SV.er,SC.er,ig] at h1⊢;rw[h1];rfl
 ·obtain⟨l,h1,h2⟩:=Fk hx
  exact⟨(.agg,l),by simp[SV.er,ig,h1,bT.er],h2⟩
 ·cases hx
def Fj (h:Nat->Option SB):List SV->(List bT->Option ρ)->Option ρ
 |[],k=>k []
 |v::vs,k=>U4 h v fun d=>Fj h vs fun l=>k (d::l)
theorem U5 {h:Nat->Option SB}:∀{vs:List SV} {k:List bT->Option ρ} {r:ρ},Fj h vs k=some r->
  ∃l,kx (cU h) (vs.map SV.er)=some (l.map bT.er)/\k l=some r
 |[],k,r,hx=>⟨[],rfl,hx⟩
 |v::vs,k,r,hx=>by
  simp only[Fj] at hx
  obtain⟨d,h1,h2⟩:=ao3 hx
  obtain⟨l,h3,h4⟩:=U5 h2
  exact⟨d::l,by simp[kx,h1,h3],h4⟩
def Mode.own:Mode->Bool
 |.aD=>false
 |_=>true
theorem Mode.al6 (m:Mode):decide (m≠ .aD)=m.own:=by cases m<;>rfl
def UY (σ:af) (c:SC) (k:(t:Ty)->t.D->Bool->af->Option ρ):Option ρ:=
 match c with
 |.v t x=>k t x t.eN σ
 |.nil ts=>match ts with
  |[]=>none
  |t::us=>k (.list (t::us)) ([]:List (Ty.DL (t::us))) true σ
 |.sl n sz lo len=>match σ.h n with
  |some (.row _ m ts xs)=>cJ ts.length sz (cJ lo 0 ((dP xs len).aa fun ys=>k (.list ts) ys m.own (σ.del n)))
  |_=>none
 |_=>none
theorem acL {ts:List Ty} {xs ys:List (Ty.DL ts)} {len:Nat} (h:dP xs len=some ys):len<=xs.length/\(List.map (Ty.aH ts) xs).take len=List.map (Ty.aH ts) ys:=by
 unfold dP at h
 split at h
 ·rename_i hl
  injection h with h
  subst h
  exact⟨hl,by simp[List.map_take]⟩
 ·cases h
theorem aoW {σ:af} {c:SC} {k:(t:Ty)->t.D->Bool->af->Option ρ} {r:ρ} (hx:UY σ c k=some r):
  ∃(t:Ty) (x:t.D) (o:Bool) (σ1:af),σ.er.fS c.er=some (t.er x,o,σ1.er)/\k t x o σ1=some r:=by
 unfold UY at hx
 split at hx
 ·rename_i t x
  exact⟨_,_,_,_,by simp only[SC.er,St.fS,Ty.wX],hx⟩
 ·split at hx
  ·cases hx
  ·rename_i t us
   exact⟨.list (t::us),[],true,σ,by simp[SC.er,St.fS,Ty.er],hx⟩
 ·rename_i n sz lo len
  split at hx
  ·rename_i gr m ts xs hn
   have bq:=(bg hx).1;replace hx:=(bg hx).2;subst bq
   have bq:=(bg hx).1;replace hx:=(bg hx).2;subst bq
   rw[eP] at hx
   obtain⟨ys,hw,hx⟩:=hx
   obtain⟨w1,w2⟩:=acL hw
   refine⟨.list ts,ys,m.own,σ.del n,?_,hx⟩
   have bj:σ.er.h n=some (.row gr m ts.length (List.map (Ty.aH ts) xs)):=by simp[af.er,cU,hn,SB.er]
   simp only[SC.er,St.fS,bj,List.length_map,w1,w2,and_self,if_true,Ty.er,af.Ic,Mode.al6]
  ·cases hx
 ·cases hx
def zo (σ:af):List SC->(List TD->Bool->af->Option ρ)->Option ρ
 |[],k=>k [] true σ
 |c::cs,k=>UY σ c fun t x o σ1=>zo σ1 cs fun l o' σ2=>k (⟨t,x⟩::l) (o&&o') σ2
theorem Fh:∀{cs:List SC} {σ:af} {k:List TD->Bool->af->Option ρ} {r:ρ},zo σ cs k=some r->
  ∃(l:List TD) (o:Bool) (σ1:af),σ.er.ft (cs.map SC.er)=some (cD l,o,σ1.er)/\k l o σ1=some r
 |[],σ,k,r,hx=>⟨[],true,σ,rfl,hx⟩
 |c::cs,σ,k,r,hx=>by
  simp only[zo] at hx
  obtain⟨t,x,o,σ1,h1,h2⟩:=aoW hx
  obtain⟨l,o',σ2,h3,h4⟩:=Fh h2
  exact⟨⟨t,x⟩::l,o&&o',σ2,by simp[St.ft,h1,h3,cD],h4⟩
def Kn (ts:List Ty) (σ:af):List SV->(List (Ty.DL ts)->Bool->af->Option ρ)->Option ρ
 |[],k=>k [] true σ
 |v::vs,k=>match v.cells? with
  |some (_,cs)=>zo σ cs fun l o σ1=>match qy ts l with
   |some e=>Kn ts σ1 vs fun es o' σ2=>k (e::es) (o&&o') σ2
   |none=>none
  |none=>none
theorem acQ:∀{cs:List ah} {σ σ1:St} {l:List C} {o:Bool},σ.ft cs=some (l,o,σ1)->l.length=cs.length
 |[],σ,σ1,l,o,h=>by simp[St.ft] at h;rw[h.1];rfl
 |c::cs,σ,σ1,l,o,h=>by
  simp only[St.ft] at h
  split at h
  ·split at h
   ·rename_i e2
    injection h with h
    injection h with h h2
    subst h
    simp[acQ e2]
   ·cases h
  ·cases h
theorem acz {ts:List Ty}:∀{vs:List SV} {σ:af} {k:List (Ty.DL ts)->Bool->af->Option ρ} {r:ρ},Kn ts σ vs k=some r->
  ∃(es:List (Ty.DL ts)) (o:Bool) (σ1:af),σ.er.kU ts.length (vs.map SV.er)=some (List.map (Ty.aH ts) es,o,σ1.er)/\k es o σ1=some r
 |[],σ,k,r,hx=>⟨[],true,σ,rfl,hx⟩
 |v::vs,σ,k,r,hx=>by
  simp only[Kn] at hx
  split at hx
  ·rename_i b cs hc
   obtain⟨l,o,σ1,h1,h2⟩:=Fh hx
   split at h2
   ·rename_i e he
    obtain⟨es,o',σ2,h3,h4⟩:=acz h2
    have hl:(cs.map SC.er).length=ts.length:=by
     have a:=acQ h1
     rw[<-wH he,Ty.De] at a
     exact a.symm
    refine⟨e::es,o&&o',σ2,?_,h4⟩
    simp only[List.map_cons,St.kU,SV.lx hc,hl,if_true,h1,h3,wH he]
   ·cases h2
  ·cases hx
end
end Go.Am
