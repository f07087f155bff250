/- S2: the typed evaluator's helpers. No condition. -/
import Derived.Test.YtfkfmbhknekkdaaS1
set_option linter.unusedVariables false
namespace Go.Am
def dQ {ρ:Type} (b:Bool) (x:Option ρ):Option ρ:=match b with|true=>x|false=>none
def ci {ρ:Type} (a b:Nat) (x:Option ρ):Option ρ:=match Nat.beq a b with|true=>x|false=>none
theorem bQ {ρ:Type} {b:Bool} {x:Option ρ} {r:ρ} (h:dQ b x=some r):b=true/\x=some r:=by
 cases b with
 |true=>exact⟨rfl,h⟩
 |false=>cases h
theorem aK {ρ:Type} {a b:Nat} {x:Option ρ} {r:ρ} (h:ci a b x=some r):a=b/\x=some r:=by
 unfold ci at h
 split at h
 ·rename_i e;exact⟨Nat.eq_of_beq_eq_true e,h⟩
 ·cases h
abbrev TD:=(t:Ty)×t.D
inductive bZ where
 |t (n:Nat)
 |k (v:SV)
def bZ.er:bZ->MO
 |.t n=>.t n
 |.k v=>.k v.er
def ab.ev (σ:ab):bZ->SV
 |.t n=>σ.env n
 |.k v=>v
theorem ab.cY (σ:ab) (x:bZ):σ.er.ev x.er=(σ.ev x).er:=by cases x<;>rfl
def SV.cells?:SV->Option (Bool×List SC)
 |.one .bg=>none
 |.one c=>some (false,[c])
 |.agg cs=>some (true,cs)
 |.aY _=>none
theorem SV.jT {v:SV} {b:Bool} {cs:List SC} (h:v.cells?=some (b,cs)):v.er.cells?=some (b,cs.map SC.er):=by
 cases v with
 |one c=>cases c<;>simp[SV.cells?] at h<;>(obtain⟨rfl,rfl⟩:=h;rfl)
 |agg cs'=>simp[SV.cells?] at h;obtain⟨rfl,rfl⟩:=h;rfl
 |aY xs=>simp[SV.cells?] at h
def xr:Bool->List SC->SV
 |true,cs=>.agg cs
 |false,[c]=>.one c
 |false,_=>.one .bg
theorem Ai (b:Bool) (cs:List SC):(xr b cs).er=jL b (cs.map SC.er):=by
 cases b with
 |true=>rfl
 |false=>match cs with
  |[]=>rfl
  |[c]=>rfl
  |_::_::_=>rfl
section
variable {ρ:Type}
def Ej (op:BinOp) (k:IntKind) (a b:Int) (c:(t:Ty)->t.D->Option ρ):Option ρ:=
 match op with
 |.add=>c (.int k) (aP k a b)
 |.sub=>c (.int k) (nG k a b)
 |.mul=>c (.int k) (dc k a b)
 |.quo=>(XH k a b).ah fun x=>c (.int k) x
 |.rem=>(ru a b).ah fun x=>c (.int k) x
 |.and=>c (.int k) (Z3 k a b)
 |.or=>c (.int k) (orI k a b)
 |.xor=>c (.int k) (alE k a b)
 |.eql=>c .bool (gd a b)
 |.neq=>c .bool (fb a b)
 |.lss=>c .bool (cr a b)
 |.leq=>c .bool (kP a b)
 |.gtr=>c .bool (cr b a)
 |.geq=>c .bool (kP b a)
 |_=>none
theorem aam {op:BinOp} {k:IntKind} {a b:Int} {c:(t:Ty)->t.D->Option ρ} {r:ρ} (h:Ej op k a b c=some r):
    ∃(t:Ty) (x:t.D),x5 op k a b=some (t.er x)/\c t x=some r:=by
  cases op<;>first
    |exact⟨.int k,_,rfl,h⟩
    |exact⟨.bool,_,rfl,h⟩
    |(simp only[Ej,XH,ru,dF] at h
      obtain⟨x,h1,h2⟩:=h
      split at h1
      · cases h1
      · rename_i hb
        injection h1 with h1
        subst h1
        exact⟨.int k,_,by simp[x5,hb,Ty.er],h2⟩)
    |(simp[Ej] at h)
def GY (op:BinOp) (k:IntKind) (a b:Int) (c:(t:Ty)->t.D->Option ρ):Option ρ:=
 match op with
 |.shl=>(Yr k a b).ah fun x=>c (.int k) x
 |.shr=>(Ys k a b).ah fun x=>c (.int k) x
 |_=>none
theorem akv {op:BinOp} {k:IntKind} {a b:Int} {c:(t:Ty)->t.D->Option ρ} {r:ρ} (h:GY op k a b c=some r):
    ∃(t:Ty) (x:t.D),CQ op k a b=some (t.er x)/\c t x=some r:=by
  cases op<;>first
    |(simp only[GY,Yr,Ys,dF] at h
      obtain⟨x,h1,h2⟩:=h
      split at h1
      · cases h1
      · rename_i hb
        injection h1 with h1
        subst h1
        exact⟨.int k,_,by simp[CQ,hb,Ty.er],h2⟩)
    |(simp[GY] at h)
def IP (op:BinOp) (x y:SV) (c:(t:Ty)->t.D->Option ρ):Option ρ:=
 match x,y with
 |.one (.v (.int k) a),.one (.v (.int k') b)=>match BinOp.wO op with
  |true=>GY op k a b c
  |false=>match decide (k=k') with
   |true=>Ej op k a b c
   |false=>none
 |_,_=>none
theorem aan {op:BinOp} {x y:SV} {c:(t:Ty)->t.D->Option ρ} {r:ρ} (h:IP op x y c=some r):
  ∃(t:Ty) (z:t.D),tE op x.er y.er=some (t.er z)/\c t z=some r:=by
 unfold IP at h
 split at h
 ·rename_i k a k' b
  split at h
  ·rename_i e
   obtain⟨t,z,h1,h2⟩:=akv h
   exact⟨t,z,by simp[SV.er,SC.er,Ty.er,tE,e];exact h1,h2⟩
  ·rename_i e
   split at h
   ·rename_i hk
    have hk:=of_decide_eq_true hk
    obtain⟨t,z,h1,h2⟩:=aam h
    exact⟨t,z,by simp[SV.er,SC.er,Ty.er,tE,e,hk];subst hk;exact h1,h2⟩
   ·cases h
 ·cases h
def IM (op:BinOp) (x y:SV) (c:(t:Ty)->t.D->Option ρ):Option ρ:=
 match x,y with
 |.one (.v .bool a),.one (.v .bool b)=>match op with
  |.eql=>c .bool (eqB a b)
  |.neq=>c .bool (Cu a b)
  |_=>none
 |_,_=>none
theorem aal {op:BinOp} {x y:SV} {c:(t:Ty)->t.D->Option ρ} {r:ρ} (h:IM op x y c=some r):
  ∃(t:Ty) (z:t.D),x4 op x.er y.er=some (t.er z)/\c t z=some r:=by
 unfold IM at h
 split at h
 ·rename_i a b
  split at h
  ·exact⟨.bool,_,rfl,h⟩
  ·exact⟨.bool,_,rfl,h⟩
  ·cases h
 ·cases h
def Qs (op:UnOp) (x:SV) (c:(t:Ty)->t.D->Option ρ):Option ρ:=
 match x with
 |.one (.v .bool a)=>match op with
  |.not=>c .bool (fc a)
  |_=>none
 |.one (.v (.int k) a)=>match op with
  |.neg=>c (.int k) (ah6 k a)
  |_=>none
 |_=>none
theorem alg {op:UnOp} {x:SV} {c:(t:Ty)->t.D->Option ρ} {r:ρ} (h:Qs op x c=some r):
  ∃(t:Ty) (z:t.D),Ak op x.er=some (t.er z)/\c t z=some r:=by
 unfold Qs at h
 split at h
 ·rename_i a
  split at h
  ·exact⟨.bool,_,rfl,h⟩
  ·cases h
 ·rename_i k a
  split at h
  ·exact⟨.int k,_,rfl,h⟩
  ·cases h
 ·cases h
def SV.cZ:SV->Option Int
 |.one (.v (.int k) n)=>some n
 |_=>none
theorem SV.wM {v:SV} {n:Int} (h:v.cZ=some n):v.er.cZ=some n:=by
 unfold SV.cZ at h
 split at h
 ·injection h with h;subst h;rfl
 ·cases h
def CV (h:Nat->Option SB) (p:SC) (sz:Nat) (c:List SC->Option ρ):Option ρ:=
 match p with
 |.ptr n k au off=>match h n with
  |some (.box cs)=>ci k 0 (match sub cs off sz with|some l=>c l|none=>none)
  |some (.row _ m ts xs)=>ci au ts.length ((eZ xs k).ah fun e=>
   match sub (match m with|.live=>Ty.live n k ts.length 0 ts e|_=>Ty.cells ts e) off sz with
   |some l=>c l
   |none=>none)
  |none=>none
 |.bV ts x off=>match sub (Ty.cells ts x) off sz with|some l=>c l|none=>none
 |.bD ts x off j n s len=>match Nat.beq off j&&Nat.beq sz 1 with
  |true=>c [.sl n s 0 len]
  |false=>dQ (Nat.ble (off+sz) j) (match sub (Ty.cells ts x) off sz with|some l=>c l|none=>none)
 |_=>none
theorem PL {h:Nat->Option SB} {p:SC} {sz:Nat} {c:List SC->Option ρ} {r:ρ} (hx:CV h p sz c=some r):
  ∃l,loadAt (cB h) p.er sz=some (l.map SC.er)/\c l=some r:=by
 unfold CV at hx
 split at hx
 ·rename_i n k au off
  split at hx
  ·rename_i cs hn
   have aS:=(aK hx).1;replace hx:=(aK hx).2;subst aS
   split at hx
   ·rename_i l e
    refine⟨l,?_,hx⟩
    simp[SC.er,loadAt,cB,hn,SB.er,oP,e]
   ·cases hx
  ·rename_i gr m ts xs hn
   have aS:=(aK hx).1;replace hx:=(aK hx).2;subst aS
   rw[dF] at hx
   obtain⟨e,he,hx⟩:=hx
   replace he:xs[k]? =some e:=he
   split at hx
   ·rename_i l hl
    refine⟨l,?_,hx⟩
    have lz:(List.map (Ty.az ts) xs)[k]? =some (Ty.az ts e):=by rw[List.getElem?_map,he];rfl
    simp only[SC.er,loadAt,cB,hn,Option.map_some,SB.er,if_true,lz]
    cases m with
    |live=>
     simp only at hl
     have:=congrArg (Option.map (List.map SC.er)) hl
     rw[<-oP,Ty.WS,akW] at this
     cases hs:sub (Ty.az ts e) off sz with
     |none=>rw[hs] at this;cases this
     |some l'=>rw[hs] at this;simpa using this
    |aj=>
     simp only at hl
     have:=congrArg (Option.map (List.map SC.er)) hl
     rw[<-oP,Ty.jT,oP] at this
     cases hs:sub (Ty.az ts e) off sz with
     |none=>rw[hs] at this;cases this
     |some l'=>rw[hs] at this;simpa using this
    |aF=>
     simp only at hl
     have:=congrArg (Option.map (List.map SC.er)) hl
     rw[<-oP,Ty.jT,oP] at this
     cases hs:sub (Ty.az ts e) off sz with
     |none=>rw[hs] at this;cases this
     |some l'=>rw[hs] at this;simpa using this
   ·cases hx
  ·cases hx
 ·rename_i ts x off
  split at hx
  ·rename_i l hl
   refine⟨l,?_,hx⟩
   have:=congrArg (Option.map (List.map SC.er)) hl
   rw[<-oP,Ty.jT,oP] at this
   simpa[SC.er,loadAt] using this
  ·cases hx
 ·rename_i ts x off j n s len
  split at hx
  ·rename_i hc
   simp only[Bool.and_eq_true] at hc
   have h1:=Nat.eq_of_beq_eq_true hc.1
   have h2:=Nat.eq_of_beq_eq_true hc.2
   subst h1 h2
   exact⟨_,by simp[SC.er,loadAt],hx⟩
  ·rename_i hc
   have av:¬(off=j/\sz=1):=by
    rintro⟨rfl,rfl⟩
    simp at hc
   have hb:=(bQ hx).1;replace hx:=(bQ hx).2
   have eU:=Nat.le_of_ble_eq_true hb
   split at hx
   ·rename_i l hl
    refine⟨l,?_,hx⟩
    have:=congrArg (Option.map (List.map SC.er)) hl
    rw[<-oP,Ty.jT,oP] at this
    simp only[SC.er,loadAt]
    rw[if_neg av,if_pos eU]
    cases hs:sub (Ty.az ts x) off sz with
    |none=>rw[hs] at this;cases this
    |some l'=>rw[hs] at this;simpa using this
   ·cases hx
 ·cases hx
theorem Ji:∀{ts:List Ty} {e:Ty.DL ts} {off:Nat} {x:TD},(Ty.f0 ts e)[off]? =some x->(Ty.az ts e)[off]? =some (x.1.er x.2):=by
 intro ts e off x h
 rw[<-Ty.pg,cA,List.getElem?_map,h]
 rfl
def ve (h:Nat->Option SB) (c:SC) (k:(t:Ty)->t.D->Option ρ):Option ρ:=
 match c with
 |.v t x=>k t x
 |.nil ts=>match ts with
  |[]=>none
  |t::us=>k (.list (t::us)) ([]:List (Ty.DL (t::us)))
 |.sl n sz lo len=>match h n with
  |some (.row _ _ ts xs)=>ci ts.length sz ((d7 xs lo len).ah fun ys=>k (.list ts) ys)
  |_=>none
 |.bj n kk au off sz len=>match h n with
  |some (.row _ .live ts xs)=>ci ts.length au ((eZ xs kk).ah fun e=>match(Ty.f0 ts e)[off]? with
   |some ⟨t,x⟩=>k t x
   |none=>none)
  |_=>none
 |_=>none
theorem ZB {ts:List Ty} {xs ys:List (Ty.DL ts)} {lo len:Nat} (h:d7 xs lo len=some ys):lo+len<=xs.length/\((List.map (Ty.az ts) xs).drop lo).take len=List.map (Ty.az ts) ys:=by
 unfold d7 at h
 split at h
 ·rename_i hl
  injection h with h
  subst h
  exact⟨hl,by simp[List.map_drop,List.map_take]⟩
 ·cases h
theorem Ae {h:Nat->Option SB} {c:SC} {k:(t:Ty)->t.D->Option ρ} {r:ρ} (hx:ve h c k=some r):
  ∃(t:Ty) (x:t.D),bS (cB h) c.er=some (t.er x)/\k t x=some r:=by
 unfold ve at hx
 split at hx
 ·exact⟨_,_,rfl,hx⟩
 ·split at hx
  ·cases hx
  ·rename_i t us
   exact⟨.list (t::us),[],by simp[SC.er,bS,Ty.er],hx⟩
 ·rename_i n sz lo len
  split at hx
  ·rename_i gr m ts xs hn
   have aS:=(aK hx).1;replace hx:=(aK hx).2;subst aS
   rw[dF] at hx
   obtain⟨ys,hw,hx⟩:=hx
   obtain⟨w1,w2⟩:=ZB hw
   refine⟨.list ts,ys,?_,hx⟩
   simp only[SC.er,bS,cB,hn,Option.map_some,SB.er,List.length_map,Ty.er,w2,w1,and_self,if_true]
  ·cases hx
 ·rename_i n kk au off sz len
  split at hx
  ·rename_i gr ts xs hn
   have aS:=(aK hx).1;replace hx:=(aK hx).2;subst aS
   rw[dF] at hx
   obtain⟨e,he,hx⟩:=hx
   replace he:xs[kk]? =some e:=he
   split at hx
   ·rename_i t x hd
    refine⟨t,x,?_,hx⟩
    have:=Ji hd
    simp only[SC.er,bS,cB,hn,Option.map_some,SB.er,if_true,List.getElem?_map,he,Option.bind_some,this]
   ·cases hx
  ·cases hx
 ·cases hx
def Af (h:Nat->Option SB):List SC->(List TD->Option ρ)->Option ρ
 |[],k=>k []
 |c::cs,k=>ve h c fun t x=>Af h cs fun l=>k (⟨t,x⟩::l)
theorem Hw {h:Nat->Option SB}:∀{cs:List SC} {k:List TD->Option ρ} {r:ρ},Af h cs k=some r->
  ∃l,gZ (cB h) (cs.map SC.er)=some (cA l)/\k l=some r
 |[],k,r,hx=>⟨[],rfl,hx⟩
 |c::cs,k,r,hx=>by
  simp only[Af] at hx
  obtain⟨t,x,h1,h2⟩:=Ae hx
  obtain⟨l,h3,h4⟩:=Hw h2
  exact⟨⟨t,x⟩::l,by simp[gZ,h1,h3,cA],h4⟩
abbrev bG:=K×List TD
def bG.er (d:bG):Dv:=(d.1,cA d.2)
def Qa (h:Nat->Option SB) (v:SV) (k:bG->Option ρ):Option ρ:=
 match v with
 |.one (.ptr n kk sz off)=>match h n with
  |some (.box cs)=>ci kk 0 (ci off 0 (Af h cs fun l=>k (.ptr,l)))
  |_=>none
 |.one (.bV ts x off)=>ci off 0 (k (.ptr,Ty.f0 ts x))
 |.one c=>ve h c fun t x=>k (.one,[⟨t,x⟩])
 |.agg cs=>Af h cs fun l=>k (.agg,l)
 |.aY _=>none
theorem akY {h:Nat->Option SB} {v:SV} {k:bG->Option ρ} {r:ρ} (hx:Qa h v k=some r):
  ∃d:bG,f7 (cB h) v.er=some d.er/\k d=some r:=by
 unfold Qa at hx
 split at hx
 ·rename_i n kk sz off
  split at hx
  ·rename_i cs hn
   have aS:=(aK hx).1;replace hx:=(aK hx).2;subst aS
   have aS:=(aK hx).1;replace hx:=(aK hx).2;subst aS
   obtain⟨l,h1,h2⟩:=Hw hx
   exact⟨(.ptr,l),by simp[SV.er,SC.er,f7,cB,hn,SB.er];exact⟨_,h1,rfl⟩,h2⟩
  ·cases hx
 ·rename_i ts x off
  have aS:=(aK hx).1;replace hx:=(aK hx).2;subst aS
  exact⟨(.ptr,Ty.f0 ts x),by simp[SV.er,SC.er,f7,bG.er,Ty.pg],hx⟩
 ·rename_i c hp hd
  obtain⟨t,x,h1,h2⟩:=Ae hx
  refine⟨(.one,[⟨t,x⟩]),?_,h2⟩
  cases c with
  |ptr n kk sz off=>exact absurd rfl (hp n kk sz off)
  |bV ts x off=>exact absurd rfl (hd ts x off)
  |v t' x'=>simp only[SV.er,SC.er,f7] at h1⊢;rw[h1];rfl
  |nil ts=>simp only[SV.er,SC.er,f7] at h1⊢;rw[h1];rfl
  |sl n sz lo len=>simp only[SV.er,SC.er,f7] at h1⊢;rw[h1];rfl
  |bj n a b c' d e=>simp only[SV.er,SC.er,f7] at h1⊢;rw[h1];rfl
  |cH n a b c' d e=>simp only[SV.er,SC.er,f7] at h1⊢;rw[h1];rfl
  |bD ts x a b n c' d=>simp only[SV.er,SC.er,f7] at h1⊢;rw[h1];rfl
  |fn f bM=>simp only[SV.er,SC.er,f7] at h1⊢;rw[h1];rfl
  |bg=>simp only[SV.er,SC.er,f7] at h1⊢;rw[h1];rfl
 ·obtain⟨l,h1,h2⟩:=Hw hx
  exact⟨(.agg,l),by simp[SV.er,f7,h1,bG.er],h2⟩
 ·cases hx
def C5 (h:Nat->Option SB):List SV->(List bG->Option ρ)->Option ρ
 |[],k=>k []
 |v::vs,k=>Qa h v fun d=>C5 h vs fun l=>k (d::l)
theorem Qb {h:Nat->Option SB}:∀{vs:List SV} {k:List bG->Option ρ} {r:ρ},C5 h vs k=some r->
  ∃l,jr (cB h) (vs.map SV.er)=some (l.map bG.er)/\k l=some r
 |[],k,r,hx=>⟨[],rfl,hx⟩
 |v::vs,k,r,hx=>by
  simp only[C5] at hx
  obtain⟨d,h1,h2⟩:=akY hx
  obtain⟨l,h3,h4⟩:=Qb h2
  exact⟨d::l,by simp[jr,h1,h3],h4⟩
def Mode.own:Mode->Bool
 |.aF=>false
 |_=>true
theorem Mode.ais (m:Mode):decide (m≠ .aF)=m.own:=by cases m<;>rfl
def P5 (σ:ab) (c:SC) (k:(t:Ty)->t.D->Bool->ab->Option ρ):Option ρ:=
 match c with
 |.v t x=>k t x t.dX σ
 |.nil ts=>match ts with
  |[]=>none
  |t::us=>k (.list (t::us)) ([]:List (Ty.DL (t::us))) true σ
 |.sl n sz lo len=>match σ.h n with
  |some (.row _ m ts xs)=>ci ts.length sz (ci lo 0 ((iT xs len).ah fun ys=>k (.list ts) ys m.own (σ.del n)))
  |_=>none
 |_=>none
theorem Za {ts:List Ty} {xs ys:List (Ty.DL ts)} {len:Nat} (h:iT xs len=some ys):len<=xs.length/\(List.map (Ty.az ts) xs).take len=List.map (Ty.az ts) ys:=by
 unfold iT at h
 split at h
 ·rename_i hl
  injection h with h
  subst h
  exact⟨hl,by simp[List.map_take]⟩
 ·cases h
theorem akR {σ:ab} {c:SC} {k:(t:Ty)->t.D->Bool->ab->Option ρ} {r:ρ} (hx:P5 σ c k=some r):
  ∃(t:Ty) (x:t.D) (o:Bool) (σ1:ab),σ.er.fe c.er=some (t.er x,o,σ1.er)/\k t x o σ1=some r:=by
 unfold P5 at hx
 split at hx
 ·rename_i t x
  exact⟨_,_,_,_,by simp only[SC.er,St.fe,Ty.uV],hx⟩
 ·split at hx
  ·cases hx
  ·rename_i t us
   exact⟨.list (t::us),[],true,σ,by simp[SC.er,St.fe,Ty.er],hx⟩
 ·rename_i n sz lo len
  split at hx
  ·rename_i gr m ts xs hn
   have aS:=(aK hx).1;replace hx:=(aK hx).2;subst aS
   have aS:=(aK hx).1;replace hx:=(aK hx).2;subst aS
   rw[dF] at hx
   obtain⟨ys,hw,hx⟩:=hx
   obtain⟨w1,w2⟩:=Za hw
   refine⟨.list ts,ys,m.own,σ.del n,?_,hx⟩
   have bC:σ.er.h n=some (.row gr m ts.length (List.map (Ty.az ts) xs)):=by simp[ab.er,cB,hn,SB.er]
   simp only[SC.er,St.fe,bC,List.length_map,w1,w2,and_self,if_true,Ty.er,ab.ET,Mode.ais]
  ·cases hx
 ·cases hx
def xp (σ:ab):List SC->(List TD->Bool->ab->Option ρ)->Option ρ
 |[],k=>k [] true σ
 |c::cs,k=>P5 σ c fun t x o σ1=>xp σ1 cs fun l o' σ2=>k (⟨t,x⟩::l) (o&&o') σ2
theorem C3:∀{cs:List SC} {σ:ab} {k:List TD->Bool->ab->Option ρ} {r:ρ},xp σ cs k=some r->
  ∃(l:List TD) (o:Bool) (σ1:ab),σ.er.eS (cs.map SC.er)=some (cA l,o,σ1.er)/\k l o σ1=some r
 |[],σ,k,r,hx=>⟨[],true,σ,rfl,hx⟩
 |c::cs,σ,k,r,hx=>by
  simp only[xp] at hx
  obtain⟨t,x,o,σ1,h1,h2⟩:=akR hx
  obtain⟨l,o',σ2,h3,h4⟩:=C3 h2
  exact⟨⟨t,x⟩::l,o&&o',σ2,by simp[St.eS,h1,h3,cA],h4⟩
def Ht (ts:List Ty) (σ:ab):List SV->(List (Ty.DL ts)->Bool->ab->Option ρ)->Option ρ
 |[],k=>k [] true σ
 |v::vs,k=>match v.cells? with
  |some (_,cs)=>xp σ cs fun l o σ1=>match oy ts l with
   |some e=>Ht ts σ1 vs fun es o' σ2=>k (e::es) (o&&o') σ2
   |none=>none
  |none=>none
theorem Zf:∀{cs:List ae} {σ σ1:St} {l:List C} {o:Bool},σ.eS cs=some (l,o,σ1)->l.length=cs.length
 |[],σ,σ1,l,o,h=>by simp[St.eS] at h;rw[h.1];rfl
 |c::cs,σ,σ1,l,o,h=>by
  simp only[St.eS] at h
  split at h
  ·split at h
   ·rename_i e2
    injection h with h
    injection h with h h2
    subst h
    simp[Zf e2]
   ·cases h
  ·cases h
theorem Y0 {ts:List Ty}:∀{vs:List SV} {σ:ab} {k:List (Ty.DL ts)->Bool->ab->Option ρ} {r:ρ},Ht ts σ vs k=some r->
  ∃(es:List (Ty.DL ts)) (o:Bool) (σ1:ab),σ.er.jK ts.length (vs.map SV.er)=some (List.map (Ty.az ts) es,o,σ1.er)/\k es o σ1=some r
 |[],σ,k,r,hx=>⟨[],true,σ,rfl,hx⟩
 |v::vs,σ,k,r,hx=>by
  simp only[Ht] at hx
  split at hx
  ·rename_i b cs hc
   obtain⟨l,o,σ1,h1,h2⟩:=C3 hx
   split at h2
   ·rename_i e he
    obtain⟨es,o',σ2,h3,h4⟩:=Y0 h2
    have hl:(cs.map SC.er).length=ts.length:=by
     have a:=Zf h1
     rw[<-uA he,Ty.yt] at a
     exact a.symm
    refine⟨e::es,o&&o',σ2,?_,h4⟩
    simp only[List.map_cons,St.jK,SV.jT hc,hl,if_true,h1,h3,uA he]
   ·cases h2
  ·cases hx
end
end Go.Am
