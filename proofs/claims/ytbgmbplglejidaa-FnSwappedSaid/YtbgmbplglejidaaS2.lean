/- S2: the typed evaluator's helpers. No condition. -/
import Derived.Test.YtbgmbplglejidaaS1
set_option linter.unusedVariables false
namespace Go.Am
def fi {ρ:Type} (b:Bool) (x:Option ρ):Option ρ:=match b with|true=>x|false=>none
def cW {ρ:Type} (a b:Nat) (x:Option ρ):Option ρ:=match Nat.beq a b with|true=>x|false=>none
theorem cB {ρ:Type} {b:Bool} {x:Option ρ} {r:ρ} (h:fi b x=some r):b=true/\x=some r:=by
 cases b with
 |true=>exact⟨rfl,h⟩
 |false=>cases h
theorem bi {ρ:Type} {a b:Nat} {x:Option ρ} {r:ρ} (h:cW a b x=some r):a=b/\x=some r:=by
 unfold cW at h
 split at h
 ·rename_i e;exact⟨Nat.eq_of_beq_eq_true e,h⟩
 ·cases h
abbrev TD:=(t:Ty)×t.D
inductive cO where
 |t (n:Nat)
 |k (v:SV)
def cO.er:cO->MO
 |.t n=>.t n
 |.k v=>.k v.er
def ah.ev (σ:ah):cO->SV
 |.t n=>σ.env n
 |.k v=>v
theorem ah.du (σ:ah) (x:cO):σ.er.ev x.er=(σ.ev x).er:=by cases x<;>rfl
def SV.cells?:SV->Option (Bool×List SC)
 |.one .bq=>none
 |.one c=>some (false,[c])
 |.agg cs=>some (true,cs)
 |.br _=>none
theorem SV.mA {v:SV} {b:Bool} {cs:List SC} (h:v.cells?=some (b,cs)):v.er.cells?=some (b,cs.map SC.er):=by
 cases v with
 |one c=>cases c<;>simp[SV.cells?] at h<;>(obtain⟨rfl,rfl⟩:=h;rfl)
 |agg cs'=>simp[SV.cells?] at h;obtain⟨rfl,rfl⟩:=h;rfl
 |br xs=>simp[SV.cells?] at h
def AF:Bool->List SC->SV
 |true,cs=>.agg cs
 |false,[c]=>.one c
 |false,_=>.one .bq
theorem DI (b:Bool) (cs:List SC):(AF b cs).er=ma b (cs.map SC.er):=by
 cases b with
 |true=>rfl
 |false=>match cs with
  |[]=>rfl
  |[c]=>rfl
  |_::_::_=>rfl
section
variable {ρ:Type}
def I3 (op:BinOp) (k:IntKind) (a b:Int) (c:(t:Ty)->t.D->Option ρ):Option ρ:=
 match op with
 |.add=>c (.int k) (bA k a b)
 |.sub=>c (.int k) (iF k a b)
 |.mul=>c (.int k) (cd k a b)
 |.quo=>(Ah k a b).ab fun x=>c (.int k) x
 |.rem=>(iZ a b).ab fun x=>c (.int k) x
 |.and=>c (.int k) (qy k a b)
 |.or=>c (.int k) (orI k a b)
 |.xor=>c (.int k) (Xo k a b)
 |.eql=>c .bool (cJ a b)
 |.neq=>c .bool (gC a b)
 |.lss=>c .bool (bG a b)
 |.leq=>c .bool (iW a b)
 |.gtr=>c .bool (bG b a)
 |.geq=>c .bool (iW b a)
 |_=>none
theorem afA {op:BinOp} {k:IntKind} {a b:Int} {c:(t:Ty)->t.D->Option ρ} {r:ρ} (h:I3 op k a b c=some r):
    ∃(t:Ty) (x:t.D),Bw op k a b=some (t.er x)/\c t x=some r:=by
  cases op<;>first
    |exact⟨.int k,_,rfl,h⟩
    |exact⟨.bool,_,rfl,h⟩
    |(simp only[I3,Ah,iZ,eZ] at h
      obtain⟨x,h1,h2⟩:=h
      split at h1
      · cases h1
      · rename_i hb
        injection h1 with h1
        subst h1
        exact⟨.int k,_,by simp[Bw,hb,Ty.er],h2⟩)
    |(simp[I3] at h)
def Lu (op:BinOp) (k:IntKind) (a b:Int) (c:(t:Ty)->t.D->Option ρ):Option ρ:=
 match op with
 |.shl=>(Ar k a b).ab fun x=>c (.int k) x
 |.shr=>(t7 k a b).ab fun x=>c (.int k) x
 |_=>none
theorem arQ {op:BinOp} {k:IntKind} {a b:Int} {c:(t:Ty)->t.D->Option ρ} {r:ρ} (h:Lu op k a b c=some r):
    ∃(t:Ty) (x:t.D),Gk op k a b=some (t.er x)/\c t x=some r:=by
  cases op<;>first
    |(simp only[Lu,Ar,t7,eZ] at h
      obtain⟨x,h1,h2⟩:=h
      split at h1
      · cases h1
      · rename_i hb
        injection h1 with h1
        subst h1
        exact⟨.int k,_,by simp[Gk,hb,Ty.er],h2⟩)
    |(simp[Lu] at h)
def Nl (op:BinOp) (x y:SV) (c:(t:Ty)->t.D->Option ρ):Option ρ:=
 match x,y with
 |.one (.v (.int k) a),.one (.v (.int k') b)=>match BinOp.zH op with
  |true=>Lu op k a b c
  |false=>match decide (k=k') with
   |true=>I3 op k a b c
   |false=>none
 |_,_=>none
theorem afB {op:BinOp} {x y:SV} {c:(t:Ty)->t.D->Option ρ} {r:ρ} (h:Nl op x y c=some r):
  ∃(t:Ty) (z:t.D),wv op x.er y.er=some (t.er z)/\c t z=some r:=by
 unfold Nl at h
 split at h
 ·rename_i k a k' b
  split at h
  ·rename_i e
   obtain⟨t,z,h1,h2⟩:=arQ h
   exact⟨t,z,by simp[SV.er,SC.er,Ty.er,wv,e];exact h1,h2⟩
  ·rename_i e
   split at h
   ·rename_i hk
    have hk:=of_decide_eq_true hk
    obtain⟨t,z,h1,h2⟩:=afA h
    exact⟨t,z,by simp[SV.er,SC.er,Ty.er,wv,e,hk];subst hk;exact h1,h2⟩
   ·cases h
 ·cases h
def Nk (op:BinOp) (x y:SV) (c:(t:Ty)->t.D->Option ρ):Option ρ:=
 match x,y with
 |.one (.v .bool a),.one (.v .bool b)=>match op with
  |.eql=>c .bool (eqB a b)
  |.neq=>c .bool (KS a b)
  |_=>none
 |_,_=>none
theorem afz {op:BinOp} {x y:SV} {c:(t:Ty)->t.D->Option ρ} {r:ρ} (h:Nk op x y c=some r):
  ∃(t:Ty) (z:t.D),Bv op x.er y.er=some (t.er z)/\c t z=some r:=by
 unfold Nk at h
 split at h
 ·rename_i a b
  split at h
  ·exact⟨.bool,_,rfl,h⟩
  ·exact⟨.bool,_,rfl,h⟩
  ·cases h
 ·cases h
def Xd (op:UnOp) (x:SV) (c:(t:Ty)->t.D->Option ρ):Option ρ:=
 match x with
 |.one (.v .bool a)=>match op with
  |.not=>c .bool (dA a)
  |_=>none
 |.one (.v (.int k) a)=>match op with
  |.neg=>c (.int k) (ao3 k a)
  |_=>none
 |_=>none
theorem asW {op:UnOp} {x:SV} {c:(t:Ty)->t.D->Option ρ} {r:ρ} (h:Xd op x c=some r):
  ∃(t:Ty) (z:t.D),DK op x.er=some (t.er z)/\c t z=some r:=by
 unfold Xd at h
 split at h
 ·rename_i a
  split at h
  ·exact⟨.bool,_,rfl,h⟩
  ·cases h
 ·rename_i k a
  split at h
  ·exact⟨.int k,_,rfl,h⟩
  ·cases h
 ·cases h
def SV.dn:SV->Option Int
 |.one (.v (.int k) n)=>some n
 |_=>none
theorem SV.zF {v:SV} {n:Int} (h:v.dn=some n):v.er.dn=some n:=by
 unfold SV.dn at h
 split at h
 ·injection h with h;subst h;rfl
 ·cases h
def Gt (h:Nat->Option SB) (p:SC) (sz:Nat) (c:List SC->Option ρ):Option ρ:=
 match p with
 |.ptr n k aE off=>match h n with
  |some (.box cs)=>cW k 0 (match sub cs off sz with|some l=>c l|none=>none)
  |some (.row _ m ts xs)=>cW aE ts.length ((dt xs k).ab fun e=>
   match sub (match m with|.live=>Ty.live n k ts.length 0 ts e|_=>Ty.cells ts e) off sz with
   |some l=>c l
   |none=>none)
  |none=>none
 |.cH ts x off=>match sub (Ty.cells ts x) off sz with|some l=>c l|none=>none
 |_=>none
theorem Wj {h:Nat->Option SB} {p:SC} {sz:Nat} {c:List SC->Option ρ} {r:ρ} (hx:Gt h p sz c=some r):
  ∃l,loadAt (dc h) p.er sz=some (l.map SC.er)/\c l=some r:=by
 unfold Gt at hx
 split at hx
 ·rename_i n k aE off
  split at hx
  ·rename_i cs hn
   have bw:=(bi hx).1;replace hx:=(bi hx).2;subst bw
   split at hx
   ·rename_i l e
    refine⟨l,?_,hx⟩
    simp[SC.er,loadAt,dc,hn,SB.er,ud,e]
   ·cases hx
  ·rename_i gr m ts xs hn
   have bw:=(bi hx).1;replace hx:=(bi hx).2;subst bw
   rw[eZ] at hx
   obtain⟨e,he,hx⟩:=hx
   replace he:xs[k]? =some e:=he
   split at hx
   ·rename_i l hl
    refine⟨l,?_,hx⟩
    have nW:(List.map (Ty.aI ts) xs)[k]? =some (Ty.aI ts e):=by rw[List.getElem?_map,he];rfl
    simp only[SC.er,loadAt,dc,hn,Option.map_some,SB.er,if_true,nW]
    cases m with
    |live=>
     simp only at hl
     have:=congrArg (Option.map (List.map SC.er)) hl
     rw[<-ud,Ty.abI,asx] at this
     cases hs:sub (Ty.aI ts e) off sz with
     |none=>rw[hs] at this;cases this
     |some l'=>rw[hs] at this;simpa using this
    |ae=>
     simp only at hl
     have:=congrArg (Option.map (List.map SC.er)) hl
     rw[<-ud,Ty.mA,ud] at this
     cases hs:sub (Ty.aI ts e) off sz with
     |none=>rw[hs] at this;cases this
     |some l'=>rw[hs] at this;simpa using this
    |aG=>
     simp only at hl
     have:=congrArg (Option.map (List.map SC.er)) hl
     rw[<-ud,Ty.mA,ud] at this
     cases hs:sub (Ty.aI ts e) off sz with
     |none=>rw[hs] at this;cases this
     |some l'=>rw[hs] at this;simpa using this
   ·cases hx
  ·cases hx
 ·rename_i ts x off
  split at hx
  ·rename_i l hl
   refine⟨l,?_,hx⟩
   have:=congrArg (Option.map (List.map SC.er)) hl
   rw[<-ud,Ty.mA,ud] at this
   simpa[SC.er,loadAt] using this
  ·cases hx
 ·cases hx
theorem NS:∀{ts:List Ty} {e:Ty.DL ts} {off:Nat} {x:TD},(Ty.iq ts e)[off]? =some x->(Ty.aI ts e)[off]? =some (x.1.er x.2):=by
 intro ts e off x h
 rw[<-Ty.qG,cQ,List.getElem?_map,h]
 rfl
def xX (h:Nat->Option SB) (c:SC) (k:(t:Ty)->t.D->Option ρ):Option ρ:=
 match c with
 |.v t x=>k t x
 |.nil ts=>match ts with
  |[]=>none
  |t::us=>k (.list (t::us)) ([]:List (Ty.DL (t::us)))
 |.sl n sz lo len=>match h n with
  |some (.row _ _ ts xs)=>cW ts.length sz ((cr xs lo len).ab fun ys=>k (.list ts) ys)
  |_=>none
 |.bE n kk aE off sz len=>match h n with
  |some (.row _ .live ts xs)=>cW ts.length aE ((dt xs kk).ab fun e=>match(Ty.iq ts e)[off]? with
   |some ⟨t,x⟩=>k t x
   |none=>none)
  |_=>none
 |_=>none
theorem aeS {ts:List Ty} {xs ys:List (Ty.DL ts)} {lo len:Nat} (h:cr xs lo len=some ys):lo+len<=xs.length/\((List.map (Ty.aI ts) xs).drop lo).take len=List.map (Ty.aI ts) ys:=by
 unfold cr at h
 split at h
 ·rename_i hl
  injection h with h
  subst h
  exact⟨hl,by simp[List.map_drop,List.map_take]⟩
 ·cases h
theorem DG {h:Nat->Option SB} {c:SC} {k:(t:Ty)->t.D->Option ρ} {r:ρ} (hx:xX h c k=some r):
  ∃(t:Ty) (x:t.D),cq (dc h) c.er=some (t.er x)/\k t x=some r:=by
 unfold xX at hx
 split at hx
 ·exact⟨_,_,rfl,hx⟩
 ·split at hx
  ·cases hx
  ·rename_i t us
   exact⟨.list (t::us),[],by simp[SC.er,cq,Ty.er],hx⟩
 ·rename_i n sz lo len
  split at hx
  ·rename_i gr m ts xs hn
   have bw:=(bi hx).1;replace hx:=(bi hx).2;subst bw
   rw[eZ] at hx
   obtain⟨ys,hw,hx⟩:=hx
   obtain⟨w1,w2⟩:=aeS hw
   refine⟨.list ts,ys,?_,hx⟩
   simp only[SC.er,cq,dc,hn,Option.map_some,SB.er,List.length_map,Ty.er,w2,w1,and_self,if_true]
  ·cases hx
 ·rename_i n kk aE off sz len
  split at hx
  ·rename_i gr ts xs hn
   have bw:=(bi hx).1;replace hx:=(bi hx).2;subst bw
   rw[eZ] at hx
   obtain⟨e,he,hx⟩:=hx
   replace he:xs[kk]? =some e:=he
   split at hx
   ·rename_i t x hd
    refine⟨t,x,?_,hx⟩
    have:=NS hd
    simp only[SC.er,cq,dc,hn,Option.map_some,SB.er,if_true,List.getElem?_map,he,Option.bind_some,this]
   ·cases hx
  ·cases hx
 ·cases hx
def AA (h:Nat->Option SB):List SC->(List TD->Option ρ)->Option ρ
 |[],k=>k []
 |c::cs,k=>xX h c fun t x=>AA h cs fun l=>k (⟨t,x⟩::l)
theorem GJ {h:Nat->Option SB}:∀{cs:List SC} {k:List TD->Option ρ} {r:ρ},AA h cs k=some r->
  ∃l,g7 (dc h) (cs.map SC.er)=some (cQ l)/\k l=some r
 |[],k,r,hx=>⟨[],rfl,hx⟩
 |c::cs,k,r,hx=>by
  simp only[AA] at hx
  obtain⟨t,x,h1,h2⟩:=DG hx
  obtain⟨l,h3,h4⟩:=GJ h2
  exact⟨⟨t,x⟩::l,by simp[g7,h1,h3,cQ],h4⟩
abbrev bX:=K×List TD
def bX.er (d:bX):Dv:=(d.1,cQ d.2)
def WU (h:Nat->Option SB) (v:SV) (k:bX->Option ρ):Option ρ:=
 match v with
 |.one (.ptr n kk sz off)=>match h n with
  |some (.box cs)=>cW kk 0 (cW off 0 (AA h cs fun l=>k (.ptr,l)))
  |_=>none
 |.one (.cH ts x off)=>cW off 0 (k (.ptr,Ty.iq ts x))
 |.one c=>xX h c fun t x=>k (.one,[⟨t,x⟩])
 |.agg cs=>AA h cs fun l=>k (.agg,l)
 |.br _=>none
theorem asy {h:Nat->Option SB} {v:SV} {k:bX->Option ρ} {r:ρ} (hx:WU h v k=some r):
  ∃d:bX,iG (dc h) v.er=some d.er/\k d=some r:=by
 unfold WU at hx
 split at hx
 ·rename_i n kk sz off
  split at hx
  ·rename_i cs hn
   have bw:=(bi hx).1;replace hx:=(bi hx).2;subst bw
   have bw:=(bi hx).1;replace hx:=(bi hx).2;subst bw
   obtain⟨l,h1,h2⟩:=GJ hx
   exact⟨(.ptr,l),by simp[SV.er,SC.er,iG,dc,hn,SB.er];exact⟨_,h1,rfl⟩,h2⟩
  ·cases hx
 ·rename_i ts x off
  have bw:=(bi hx).1;replace hx:=(bi hx).2;subst bw
  exact⟨(.ptr,Ty.iq ts x),by simp[SV.er,SC.er,iG,bX.er,Ty.qG],hx⟩
 ·rename_i c hp hd
  obtain⟨t,x,h1,h2⟩:=DG hx
  refine⟨(.one,[⟨t,x⟩]),?_,h2⟩
  cases c with
  |ptr n kk sz off=>exact absurd rfl (hp n kk sz off)
  |cH ts x off=>exact absurd rfl (hd ts x off)
  |v t' x'=>simp only[SV.er,SC.er,iG] at h1⊢;rw[h1];rfl
  |nil ts=>simp only[SV.er,SC.er,iG] at h1⊢;rw[h1];rfl
  |sl n sz lo len=>simp only[SV.er,SC.er,iG] at h1⊢;rw[h1];rfl
  |bE n a b c' d e=>simp only[SV.er,SC.er,iG] at h1⊢;rw[h1];rfl
  |c7 n a b c' d e=>simp only[SV.er,SC.er,iG] at h1⊢;rw[h1];rfl
  |fn f cF=>simp only[SV.er,SC.er,iG] at h1⊢;rw[h1];rfl
  |bq=>simp only[SV.er,SC.er,iG] at h1⊢;rw[h1];rfl
 ·obtain⟨l,h1,h2⟩:=GJ hx
  exact⟨(.agg,l),by simp[SV.er,iG,h1,bX.er],h2⟩
 ·cases hx
def GI (h:Nat->Option SB):List SV->(List bX->Option ρ)->Option ρ
 |[],k=>k []
 |v::vs,k=>WU h v fun d=>GI h vs fun l=>k (d::l)
theorem WV {h:Nat->Option SB}:∀{vs:List SV} {k:List bX->Option ρ} {r:ρ},GI h vs k=some r->
  ∃l,ly (dc h) (vs.map SV.er)=some (l.map bX.er)/\k l=some r
 |[],k,r,hx=>⟨[],rfl,hx⟩
 |v::vs,k,r,hx=>by
  simp only[GI] at hx
  obtain⟨d,h1,h2⟩:=asy hx
  obtain⟨l,h3,h4⟩:=WV h2
  exact⟨d::l,by simp[ly,h1,h3],h4⟩
def Mode.own:Mode->Bool
 |.aG=>false
 |_=>true
theorem Mode.apr (m:Mode):decide (m≠ .aG)=m.own:=by cases m<;>rfl
def WN (σ:ah) (c:SC) (k:(t:Ty)->t.D->Bool->ah->Option ρ):Option ρ:=
 match c with
 |.v t x=>k t x t.eV σ
 |.nil ts=>match ts with
  |[]=>none
  |t::us=>k (.list (t::us)) ([]:List (Ty.DL (t::us))) true σ
 |.sl n sz lo len=>match σ.h n with
  |some (.row _ m ts xs)=>cW ts.length sz (cW lo 0 ((dw xs len).ab fun ys=>k (.list ts) ys m.own (σ.del n)))
  |_=>none
 |_=>none
theorem aev {ts:List Ty} {xs ys:List (Ty.DL ts)} {len:Nat} (h:dw xs len=some ys):len<=xs.length/\(List.map (Ty.aI ts) xs).take len=List.map (Ty.aI ts) ys:=by
 unfold dw at h
 split at h
 ·rename_i hl
  injection h with h
  subst h
  exact⟨hl,by simp[List.map_take]⟩
 ·cases h
theorem asr {σ:ah} {c:SC} {k:(t:Ty)->t.D->Bool->ah->Option ρ} {r:ρ} (hx:WN σ c k=some r):
  ∃(t:Ty) (x:t.D) (o:Bool) (σ1:ah),σ.er.gb c.er=some (t.er x,o,σ1.er)/\k t x o σ1=some r:=by
 unfold WN at hx
 split at hx
 ·rename_i t x
  exact⟨_,_,_,_,by simp only[SC.er,St.gb,Ty.xO],hx⟩
 ·split at hx
  ·cases hx
  ·rename_i t us
   exact⟨.list (t::us),[],true,σ,by simp[SC.er,St.gb,Ty.er],hx⟩
 ·rename_i n sz lo len
  split at hx
  ·rename_i gr m ts xs hn
   have bw:=(bi hx).1;replace hx:=(bi hx).2;subst bw
   have bw:=(bi hx).1;replace hx:=(bi hx).2;subst bw
   rw[eZ] at hx
   obtain⟨ys,hw,hx⟩:=hx
   obtain⟨w1,w2⟩:=aev hw
   refine⟨.list ts,ys,m.own,σ.del n,?_,hx⟩
   have bm:σ.er.h n=some (.row gr m ts.length (List.map (Ty.aI ts) xs)):=by simp[ah.er,dc,hn,SB.er]
   simp only[SC.er,St.gb,bm,List.length_map,w1,w2,and_self,if_true,Ty.er,ah.Jz,Mode.apr]
  ·cases hx
 ·cases hx
def Ay (σ:ah):List SC->(List TD->Bool->ah->Option ρ)->Option ρ
 |[],k=>k [] true σ
 |c::cs,k=>WN σ c fun t x o σ1=>Ay σ1 cs fun l o' σ2=>k (⟨t,x⟩::l) (o&&o') σ2
theorem GG:∀{cs:List SC} {σ:ah} {k:List TD->Bool->ah->Option ρ} {r:ρ},Ay σ cs k=some r->
  ∃(l:List TD) (o:Bool) (σ1:ah),σ.er.fD (cs.map SC.er)=some (cQ l,o,σ1.er)/\k l o σ1=some r
 |[],σ,k,r,hx=>⟨[],true,σ,rfl,hx⟩
 |c::cs,σ,k,r,hx=>by
  simp only[Ay] at hx
  obtain⟨t,x,o,σ1,h1,h2⟩:=asr hx
  obtain⟨l,o',σ2,h3,h4⟩:=GG h2
  exact⟨⟨t,x⟩::l,o&&o',σ2,by simp[St.fD,h1,h3,cQ],h4⟩
def LP (ts:List Ty) (σ:ah):List SV->(List (Ty.DL ts)->Bool->ah->Option ρ)->Option ρ
 |[],k=>k [] true σ
 |v::vs,k=>match v.cells? with
  |some (_,cs)=>Ay σ cs fun l o σ1=>match rf ts l with
   |some e=>LP ts σ1 vs fun es o' σ2=>k (e::es) (o&&o') σ2
   |none=>none
  |none=>none
theorem aeA:∀{cs:List aj} {σ σ1:St} {l:List C} {o:Bool},σ.fD cs=some (l,o,σ1)->l.length=cs.length
 |[],σ,σ1,l,o,h=>by simp[St.fD] at h;rw[h.1];rfl
 |c::cs,σ,σ1,l,o,h=>by
  simp only[St.fD] at h
  split at h
  ·split at h
   ·rename_i e2
    injection h with h
    injection h with h h2
    subst h
    simp[aeA e2]
   ·cases h
  ·cases h
theorem aei {ts:List Ty}:∀{vs:List SV} {σ:ah} {k:List (Ty.DL ts)->Bool->ah->Option ρ} {r:ρ},LP ts σ vs k=some r->
  ∃(es:List (Ty.DL ts)) (o:Bool) (σ1:ah),σ.er.lY ts.length (vs.map SV.er)=some (List.map (Ty.aI ts) es,o,σ1.er)/\k es o σ1=some r
 |[],σ,k,r,hx=>⟨[],true,σ,rfl,hx⟩
 |v::vs,σ,k,r,hx=>by
  simp only[LP] at hx
  split at hx
  ·rename_i b cs hc
   obtain⟨l,o,σ1,h1,h2⟩:=GG hx
   split at h2
   ·rename_i e he
    obtain⟨es,o',σ2,h3,h4⟩:=aei h2
    have hl:(cs.map SC.er).length=ts.length:=by
     have a:=aeA h1
     rw[<-xx he,Ty.EE] at a
     exact a.symm
    refine⟨e::es,o&&o',σ2,?_,h4⟩
    simp only[List.map_cons,St.lY,SV.mA hc,hl,if_true,h1,h3,xx he]
   ·cases h2
  ·cases hx
end
end Go.Am
