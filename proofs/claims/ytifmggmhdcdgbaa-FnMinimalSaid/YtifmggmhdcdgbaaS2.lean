/- S2: the typed evaluator's helpers. No condition. -/
import Derived.Test.YtifmggmhdcdgbaaS1
set_option linter.unusedVariables false
namespace Go.Am
def eB {ρ:Type} (b:Bool) (x:Option ρ):Option ρ:=match b with|true=>x|false=>none
def cE {ρ:Type} (a b:Nat) (x:Option ρ):Option ρ:=match Nat.beq a b with|true=>x|false=>none
theorem bX {ρ:Type} {b:Bool} {x:Option ρ} {r:ρ} (h:eB b x=some r):b=true/\x=some r:=by
 cases b with
 |true=>exact⟨rfl,h⟩
 |false=>cases h
theorem aW {ρ:Type} {a b:Nat} {x:Option ρ} {r:ρ} (h:cE a b x=some r):a=b/\x=some r:=by
 unfold cE at h
 split at h
 ·rename_i e;exact⟨Nat.eq_of_beq_eq_true e,h⟩
 ·cases h
abbrev TD:=(t:Ty)×t.D
inductive cB where
 |t (n:Nat)
 |k (v:SV)
def cB.er:cB->MO
 |.t n=>.t n
 |.k v=>.k v.er
def ah.ev (σ:ah):cB->SV
 |.t n=>σ.env n
 |.k v=>v
theorem ah.c9 (σ:ah) (x:cB):σ.er.ev x.er=(σ.ev x).er:=by cases x<;>rfl
def SV.cells?:SV->Option (Bool×List SC)
 |.one .bf=>none
 |.one c=>some (false,[c])
 |.agg cs=>some (true,cs)
 |.bn _=>none
theorem SV.lI {v:SV} {b:Bool} {cs:List SC} (h:v.cells?=some (b,cs)):v.er.cells?=some (b,cs.map SC.er):=by
 cases v with
 |one c=>cases c<;>simp[SV.cells?] at h<;>(obtain⟨rfl,rfl⟩:=h;rfl)
 |agg cs'=>simp[SV.cells?] at h;obtain⟨rfl,rfl⟩:=h;rfl
 |bn xs=>simp[SV.cells?] at h
def yN:Bool->List SC->SV
 |true,cs=>.agg cs
 |false,[c]=>.one c
 |false,_=>.one .bf
theorem Bw (b:Bool) (cs:List SC):(yN b cs).er=kI b (cs.map SC.er):=by
 cases b with
 |true=>rfl
 |false=>match cs with
  |[]=>rfl
  |[c]=>rfl
  |_::_::_=>rfl
section
variable {ρ:Type}
def FT (op:BinOp) (k:IntKind) (a b:Int) (c:(t:Ty)->t.D->Option ρ):Option ρ:=
 match op with
 |.add=>c (.int k) (bS k a b)
 |.sub=>c (.int k) (wk k a b)
 |.mul=>c (.int k) (fa k a b)
 |.quo=>(Yq k a b).ab fun x=>c (.int k) x
 |.rem=>(kB a b).ab fun x=>c (.int k) x
 |.and=>c (.int k) (oT k a b)
 |.or=>c (.int k) (orI k a b)
 |.xor=>c (.int k) (SF k a b)
 |.eql=>c .bool (fU a b)
 |.neq=>c .bool (lA a b)
 |.lss=>c .bool (cr a b)
 |.leq=>c .bool (tS a b)
 |.gtr=>c .bool (cr b a)
 |.geq=>c .bool (tS b a)
 |_=>none
theorem aaC {op:BinOp} {k:IntKind} {a b:Int} {c:(t:Ty)->t.D->Option ρ} {r:ρ} (h:FT op k a b c=some r):
    ∃(t:Ty) (x:t.D),zf op k a b=some (t.er x)/\c t x=some r:=by
  cases op<;>first
    |exact⟨.int k,_,rfl,h⟩
    |exact⟨.bool,_,rfl,h⟩
    |(simp only[FT,Yq,kB,eN] at h
      obtain⟨x,h1,h2⟩:=h
      split at h1
      · cases h1
      · rename_i hb
        injection h1 with h1
        subst h1
        exact⟨.int k,_,by simp[zf,hb,Ty.er],h2⟩)
    |(simp[FT] at h)
def ID (op:BinOp) (k:IntKind) (a b:Int) (c:(t:Ty)->t.D->Option ρ):Option ρ:=
 match op with
 |.shl=>(Y1 k a b).ab fun x=>c (.int k) x
 |.shr=>(sE k a b).ab fun x=>c (.int k) x
 |_=>none
theorem aj1 {op:BinOp} {k:IntKind} {a b:Int} {c:(t:Ty)->t.D->Option ρ} {r:ρ} (h:ID op k a b c=some r):
    ∃(t:Ty) (x:t.D),DW op k a b=some (t.er x)/\c t x=some r:=by
  cases op<;>first
    |(simp only[ID,Y1,sE,eN] at h
      obtain⟨x,h1,h2⟩:=h
      split at h1
      · cases h1
      · rename_i hb
        injection h1 with h1
        subst h1
        exact⟨.int k,_,by simp[DW,hb,Ty.er],h2⟩)
    |(simp[ID] at h)
def J5 (op:BinOp) (x y:SV) (c:(t:Ty)->t.D->Option ρ):Option ρ:=
 match x,y with
 |.one (.v (.int k) a),.one (.v (.int k') b)=>match BinOp.xV op with
  |true=>ID op k a b c
  |false=>match decide (k=k') with
   |true=>FT op k a b c
   |false=>none
 |_,_=>none
theorem aaD {op:BinOp} {x y:SV} {c:(t:Ty)->t.D->Option ρ} {r:ρ} (h:J5 op x y c=some r):
  ∃(t:Ty) (z:t.D),uK op x.er y.er=some (t.er z)/\c t z=some r:=by
 unfold J5 at h
 split at h
 ·rename_i k a k' b
  split at h
  ·rename_i e
   obtain⟨t,z,h1,h2⟩:=aj1 h
   exact⟨t,z,by simp[SV.er,SC.er,Ty.er,uK,e];exact h1,h2⟩
  ·rename_i e
   split at h
   ·rename_i hk
    have hk:=of_decide_eq_true hk
    obtain⟨t,z,h1,h2⟩:=aaC h
    exact⟨t,z,by simp[SV.er,SC.er,Ty.er,uK,e,hk];subst hk;exact h1,h2⟩
   ·cases h
 ·cases h
def J4 (op:BinOp) (x y:SV) (c:(t:Ty)->t.D->Option ρ):Option ρ:=
 match x,y with
 |.one (.v .bool a),.one (.v .bool b)=>match op with
  |.eql=>c .bool (eqB a b)
  |.neq=>c .bool (neB a b)
  |_=>none
 |_,_=>none
theorem aaB {op:BinOp} {x y:SV} {c:(t:Ty)->t.D->Option ρ} {r:ρ} (h:J4 op x y c=some r):
  ∃(t:Ty) (z:t.D),ze op x.er y.er=some (t.er z)/\c t z=some r:=by
 unfold J4 at h
 split at h
 ·rename_i a b
  split at h
  ·exact⟨.bool,_,rfl,h⟩
  ·exact⟨.bool,_,rfl,h⟩
  ·cases h
 ·cases h
def Sl (op:UnOp) (x:SV) (c:(t:Ty)->t.D->Option ρ):Option ρ:=
 match x with
 |.one (.v .bool a)=>match op with
  |.not=>c .bool (me a)
  |_=>none
 |.one (.v (.int k) a)=>match op with
  |.neg=>c (.int k) (ahZ k a)
  |_=>none
 |_=>none
theorem ak6 {op:UnOp} {x:SV} {c:(t:Ty)->t.D->Option ρ} {r:ρ} (h:Sl op x c=some r):
  ∃(t:Ty) (z:t.D),Bz op x.er=some (t.er z)/\c t z=some r:=by
 unfold Sl at h
 split at h
 ·rename_i a
  split at h
  ·exact⟨.bool,_,rfl,h⟩
  ·cases h
 ·rename_i k a
  split at h
  ·exact⟨.int k,_,rfl,h⟩
  ·cases h
 ·cases h
def SV.cX:SV->Option Int
 |.one (.v (.int k) n)=>some n
 |_=>none
theorem SV.xU {v:SV} {n:Int} (h:v.cX=some n):v.er.cX=some n:=by
 unfold SV.cX at h
 split at h
 ·injection h with h;subst h;rfl
 ·cases h
def D3 (h:Nat->Option SB) (p:SC) (sz:Nat) (c:List SC->Option ρ):Option ρ:=
 match p with
 |.ptr n k ax off=>match h n with
  |some (.box cs)=>cE k 0 (match sub cs off sz with|some l=>c l|none=>none)
  |some (.row _ m ts xs)=>cE ax ts.length ((gA xs k).ab fun e=>
   match sub (match m with|.live=>Ty.live n k ts.length 0 ts e|_=>Ty.cells ts e) off sz with
   |some l=>c l
   |none=>none)
  |none=>none
 |.cd ts x off=>match sub (Ty.cells ts x) off sz with|some l=>c l|none=>none
 |_=>none
theorem Rw {h:Nat->Option SB} {p:SC} {sz:Nat} {c:List SC->Option ρ} {r:ρ} (hx:D3 h p sz c=some r):
  ∃l,loadAt (cL h) p.er sz=some (l.map SC.er)/\c l=some r:=by
 unfold D3 at hx
 split at hx
 ·rename_i n k ax off
  split at hx
  ·rename_i cs hn
   have bq:=(aW hx).1;replace hx:=(aW hx).2;subst bq
   split at hx
   ·rename_i l e
    refine⟨l,?_,hx⟩
    simp[SC.er,loadAt,cL,hn,SB.er,sJ,e]
   ·cases hx
  ·rename_i gr m ts xs hn
   have bq:=(aW hx).1;replace hx:=(aW hx).2;subst bq
   rw[eN] at hx
   obtain⟨e,he,hx⟩:=hx
   replace he:xs[k]? =some e:=he
   split at hx
   ·rename_i l hl
    refine⟨l,?_,hx⟩
    have mH:(List.map (Ty.aD ts) xs)[k]? =some (Ty.aD ts e):=by rw[List.getElem?_map,he];rfl
    simp only[SC.er,loadAt,cL,hn,Option.map_some,SB.er,if_true,mH]
    cases m with
    |live=>
     simp only at hl
     have:=congrArg (Option.map (List.map SC.er)) hl
     rw[<-sJ,Ty.Xu,akB] at this
     cases hs:sub (Ty.aD ts e) off sz with
     |none=>rw[hs] at this;cases this
     |some l'=>rw[hs] at this;simpa using this
    |ae=>
     simp only at hl
     have:=congrArg (Option.map (List.map SC.er)) hl
     rw[<-sJ,Ty.lI,sJ] at this
     cases hs:sub (Ty.aD ts e) off sz with
     |none=>rw[hs] at this;cases this
     |some l'=>rw[hs] at this;simpa using this
    |aA=>
     simp only at hl
     have:=congrArg (Option.map (List.map SC.er)) hl
     rw[<-sJ,Ty.lI,sJ] at this
     cases hs:sub (Ty.aD ts e) off sz with
     |none=>rw[hs] at this;cases this
     |some l'=>rw[hs] at this;simpa using this
   ·cases hx
  ·cases hx
 ·rename_i ts x off
  split at hx
  ·rename_i l hl
   refine⟨l,?_,hx⟩
   have:=congrArg (Option.map (List.map SC.er)) hl
   rw[<-sJ,Ty.lI,sJ] at this
   simpa[SC.er,loadAt] using this
  ·cases hx
 ·cases hx
theorem Kw:∀{ts:List Ty} {e:Ty.DL ts} {off:Nat} {x:TD},(Ty.gy ts e)[off]? =some x->(Ty.aD ts e)[off]? =some (x.1.er x.2):=by
 intro ts e off x h
 rw[<-Ty.oY,cj,List.getElem?_map,h]
 rfl
def wm (h:Nat->Option SB) (c:SC) (k:(t:Ty)->t.D->Option ρ):Option ρ:=
 match c with
 |.v t x=>k t x
 |.nil ts=>match ts with
  |[]=>none
  |t::us=>k (.list (t::us)) ([]:List (Ty.DL (t::us)))
 |.sl n sz lo len=>match h n with
  |some (.row _ _ ts xs)=>cE ts.length sz ((cv xs lo len).ab fun ys=>k (.list ts) ys)
  |_=>none
 |.bx n kk ax off sz len=>match h n with
  |some (.row _ .live ts xs)=>cE ts.length ax ((gA xs kk).ab fun e=>match(Ty.gy ts e)[off]? with
   |some ⟨t,x⟩=>k t x
   |none=>none)
  |_=>none
 |_=>none
theorem Z6 {ts:List Ty} {xs ys:List (Ty.DL ts)} {lo len:Nat} (h:cv xs lo len=some ys):lo+len<=xs.length/\((List.map (Ty.aD ts) xs).drop lo).take len=List.map (Ty.aD ts) ys:=by
 unfold cv at h
 split at h
 ·rename_i hl
  injection h with h
  subst h
  exact⟨hl,by simp[List.map_drop,List.map_take]⟩
 ·cases h
theorem Bu {h:Nat->Option SB} {c:SC} {k:(t:Ty)->t.D->Option ρ} {r:ρ} (hx:wm h c k=some r):
  ∃(t:Ty) (x:t.D),bU (cL h) c.er=some (t.er x)/\k t x=some r:=by
 unfold wm at hx
 split at hx
 ·exact⟨_,_,rfl,hx⟩
 ·split at hx
  ·cases hx
  ·rename_i t us
   exact⟨.list (t::us),[],by simp[SC.er,bU,Ty.er],hx⟩
 ·rename_i n sz lo len
  split at hx
  ·rename_i gr m ts xs hn
   have bq:=(aW hx).1;replace hx:=(aW hx).2;subst bq
   rw[eN] at hx
   obtain⟨ys,hw,hx⟩:=hx
   obtain⟨w1,w2⟩:=Z6 hw
   refine⟨.list ts,ys,?_,hx⟩
   simp only[SC.er,bU,cL,hn,Option.map_some,SB.er,List.length_map,Ty.er,w2,w1,and_self,if_true]
  ·cases hx
 ·rename_i n kk ax off sz len
  split at hx
  ·rename_i gr ts xs hn
   have bq:=(aW hx).1;replace hx:=(aW hx).2;subst bq
   rw[eN] at hx
   obtain⟨e,he,hx⟩:=hx
   replace he:xs[kk]? =some e:=he
   split at hx
   ·rename_i t x hd
    refine⟨t,x,?_,hx⟩
    have:=Kw hd
    simp only[SC.er,bU,cL,hn,Option.map_some,SB.er,if_true,List.getElem?_map,he,Option.bind_some,this]
   ·cases hx
  ·cases hx
 ·cases hx
def yK (h:Nat->Option SB):List SC->(List TD->Option ρ)->Option ρ
 |[],k=>k []
 |c::cs,k=>wm h c fun t x=>yK h cs fun l=>k (⟨t,x⟩::l)
theorem Ei {h:Nat->Option SB}:∀{cs:List SC} {k:List TD->Option ρ} {r:ρ},yK h cs k=some r->
  ∃l,gh (cL h) (cs.map SC.er)=some (cj l)/\k l=some r
 |[],k,r,hx=>⟨[],rfl,hx⟩
 |c::cs,k,r,hx=>by
  simp only[yK] at hx
  obtain⟨t,x,h1,h2⟩:=Bu hx
  obtain⟨l,h3,h4⟩:=Ei h2
  exact⟨⟨t,x⟩::l,by simp[gh,h1,h3,cj],h4⟩
abbrev bR:=K×List TD
def bR.er (d:bR):Dv:=(d.1,cj d.2)
def R9 (h:Nat->Option SB) (v:SV) (k:bR->Option ρ):Option ρ:=
 match v with
 |.one (.ptr n kk sz off)=>match h n with
  |some (.box cs)=>cE kk 0 (cE off 0 (yK h cs fun l=>k (.ptr,l)))
  |_=>none
 |.one (.cd ts x off)=>cE off 0 (k (.ptr,Ty.gy ts x))
 |.one c=>wm h c fun t x=>k (.one,[⟨t,x⟩])
 |.agg cs=>yK h cs fun l=>k (.agg,l)
 |.bn _=>none
theorem akL {h:Nat->Option SB} {v:SV} {k:bR->Option ρ} {r:ρ} (hx:R9 h v k=some r):
  ∃d:bR,gQ (cL h) v.er=some d.er/\k d=some r:=by
 unfold R9 at hx
 split at hx
 ·rename_i n kk sz off
  split at hx
  ·rename_i cs hn
   have bq:=(aW hx).1;replace hx:=(aW hx).2;subst bq
   have bq:=(aW hx).1;replace hx:=(aW hx).2;subst bq
   obtain⟨l,h1,h2⟩:=Ei hx
   exact⟨(.ptr,l),by simp[SV.er,SC.er,gQ,cL,hn,SB.er];exact⟨_,h1,rfl⟩,h2⟩
  ·cases hx
 ·rename_i ts x off
  have bq:=(aW hx).1;replace hx:=(aW hx).2;subst bq
  exact⟨(.ptr,Ty.gy ts x),by simp[SV.er,SC.er,gQ,bR.er,Ty.oY],hx⟩
 ·rename_i c hp hd
  obtain⟨t,x,h1,h2⟩:=Bu hx
  refine⟨(.one,[⟨t,x⟩]),?_,h2⟩
  cases c with
  |ptr n kk sz off=>exact absurd rfl (hp n kk sz off)
  |cd ts x off=>exact absurd rfl (hd ts x off)
  |v t' x'=>simp only[SV.er,SC.er,gQ] at h1⊢;rw[h1];rfl
  |nil ts=>simp only[SV.er,SC.er,gQ] at h1⊢;rw[h1];rfl
  |sl n sz lo len=>simp only[SV.er,SC.er,gQ] at h1⊢;rw[h1];rfl
  |bx n a b c' d e=>simp only[SV.er,SC.er,gQ] at h1⊢;rw[h1];rfl
  |cD n a b c' d e=>simp only[SV.er,SC.er,gQ] at h1⊢;rw[h1];rfl
  |fn f bY=>simp only[SV.er,SC.er,gQ] at h1⊢;rw[h1];rfl
  |bf=>simp only[SV.er,SC.er,gQ] at h1⊢;rw[h1];rfl
 ·obtain⟨l,h1,h2⟩:=Ei hx
  exact⟨(.agg,l),by simp[SV.er,gQ,h1,bR.er],h2⟩
 ·cases hx
def Eh (h:Nat->Option SB):List SV->(List bR->Option ρ)->Option ρ
 |[],k=>k []
 |v::vs,k=>R9 h v fun d=>Eh h vs fun l=>k (d::l)
theorem Sa {h:Nat->Option SB}:∀{vs:List SV} {k:List bR->Option ρ} {r:ρ},Eh h vs k=some r->
  ∃l,j9 (cL h) (vs.map SV.er)=some (l.map bR.er)/\k l=some r
 |[],k,r,hx=>⟨[],rfl,hx⟩
 |v::vs,k,r,hx=>by
  simp only[Eh] at hx
  obtain⟨d,h1,h2⟩:=akL hx
  obtain⟨l,h3,h4⟩:=Sa h2
  exact⟨d::l,by simp[j9,h1,h3],h4⟩
def Mode.own:Mode->Bool
 |.aA=>false
 |_=>true
theorem Mode.ain (m:Mode):decide (m≠ .aA)=m.own:=by cases m<;>rfl
def R4 (σ:ah) (c:SC) (k:(t:Ty)->t.D->Bool->ah->Option ρ):Option ρ:=
 match c with
 |.v t x=>k t x t.dT σ
 |.nil ts=>match ts with
  |[]=>none
  |t::us=>k (.list (t::us)) ([]:List (Ty.DL (t::us))) true σ
 |.sl n sz lo len=>match σ.h n with
  |some (.row _ m ts xs)=>cE ts.length sz (cE lo 0 ((dc xs len).ab fun ys=>k (.list ts) ys m.own (σ.del n)))
  |_=>none
 |_=>none
theorem ZF {ts:List Ty} {xs ys:List (Ty.DL ts)} {len:Nat} (h:dc xs len=some ys):len<=xs.length/\(List.map (Ty.aD ts) xs).take len=List.map (Ty.aD ts) ys:=by
 unfold dc at h
 split at h
 ·rename_i hl
  injection h with h
  subst h
  exact⟨hl,by simp[List.map_take]⟩
 ·cases h
theorem aku {σ:ah} {c:SC} {k:(t:Ty)->t.D->Bool->ah->Option ρ} {r:ρ} (hx:R4 σ c k=some r):
  ∃(t:Ty) (x:t.D) (o:Bool) (σ1:ah),σ.er.fC c.er=some (t.er x,o,σ1.er)/\k t x o σ1=some r:=by
 unfold R4 at hx
 split at hx
 ·rename_i t x
  exact⟨_,_,_,_,by simp only[SC.er,St.fC,Ty.v8],hx⟩
 ·split at hx
  ·cases hx
  ·rename_i t us
   exact⟨.list (t::us),[],true,σ,by simp[SC.er,St.fC,Ty.er],hx⟩
 ·rename_i n sz lo len
  split at hx
  ·rename_i gr m ts xs hn
   have bq:=(aW hx).1;replace hx:=(aW hx).2;subst bq
   have bq:=(aW hx).1;replace hx:=(aW hx).2;subst bq
   rw[eN] at hx
   obtain⟨ys,hw,hx⟩:=hx
   obtain⟨w1,w2⟩:=ZF hw
   refine⟨.list ts,ys,m.own,σ.del n,?_,hx⟩
   have bk:σ.er.h n=some (.row gr m ts.length (List.map (Ty.aD ts) xs)):=by simp[ah.er,cL,hn,SB.er]
   simp only[SC.er,St.fC,bk,List.length_map,w1,w2,and_self,if_true,Ty.er,ah.Gq,Mode.ain]
  ·cases hx
 ·cases hx
def yI (σ:ah):List SC->(List TD->Bool->ah->Option ρ)->Option ρ
 |[],k=>k [] true σ
 |c::cs,k=>R4 σ c fun t x o σ1=>yI σ1 cs fun l o' σ2=>k (⟨t,x⟩::l) (o&&o') σ2
theorem Ee:∀{cs:List SC} {σ:ah} {k:List TD->Bool->ah->Option ρ} {r:ρ},yI σ cs k=some r->
  ∃(l:List TD) (o:Bool) (σ1:ah),σ.er.fc (cs.map SC.er)=some (cj l,o,σ1.er)/\k l o σ1=some r
 |[],σ,k,r,hx=>⟨[],true,σ,rfl,hx⟩
 |c::cs,σ,k,r,hx=>by
  simp only[yI] at hx
  obtain⟨t,x,o,σ1,h1,h2⟩:=aku hx
  obtain⟨l,o',σ2,h3,h4⟩:=Ee h2
  exact⟨⟨t,x⟩::l,o&&o',σ2,by simp[St.fc,h1,h3,cj],h4⟩
def I0 (ts:List Ty) (σ:ah):List SV->(List (Ty.DL ts)->Bool->ah->Option ρ)->Option ρ
 |[],k=>k [] true σ
 |v::vs,k=>match v.cells? with
  |some (_,cs)=>yI σ cs fun l o σ1=>match pH ts l with
   |some e=>I0 ts σ1 vs fun es o' σ2=>k (e::es) (o&&o') σ2
   |none=>none
  |none=>none
theorem ZK:∀{cs:List ai} {σ σ1:St} {l:List C} {o:Bool},σ.fc cs=some (l,o,σ1)->l.length=cs.length
 |[],σ,σ1,l,o,h=>by simp[St.fc] at h;rw[h.1];rfl
 |c::cs,σ,σ1,l,o,h=>by
  simp only[St.fc] at h
  split at h
  ·split at h
   ·rename_i e2
    injection h with h
    injection h with h h2
    subst h
    simp[ZK e2]
   ·cases h
  ·cases h
theorem Zy {ts:List Ty}:∀{vs:List SV} {σ:ah} {k:List (Ty.DL ts)->Bool->ah->Option ρ} {r:ρ},I0 ts σ vs k=some r->
  ∃(es:List (Ty.DL ts)) (o:Bool) (σ1:ah),σ.er.kH ts.length (vs.map SV.er)=some (List.map (Ty.aD ts) es,o,σ1.er)/\k es o σ1=some r
 |[],σ,k,r,hx=>⟨[],true,σ,rfl,hx⟩
 |v::vs,σ,k,r,hx=>by
  simp only[I0] at hx
  split at hx
  ·rename_i b cs hc
   obtain⟨l,o,σ1,h1,h2⟩:=Ee hx
   split at h2
   ·rename_i e he
    obtain⟨es,o',σ2,h3,h4⟩:=Zy h2
    have hl:(cs.map SC.er).length=ts.length:=by
     have a:=ZK h1
     rw[<-vL he,Ty.Cj] at a
     exact a.symm
    refine⟨e::es,o&&o',σ2,?_,h4⟩
    simp only[List.map_cons,St.kH,SV.lI hc,hl,if_true,h1,h3,vL he]
   ·cases h2
  ·cases hx
end
end Go.Am
