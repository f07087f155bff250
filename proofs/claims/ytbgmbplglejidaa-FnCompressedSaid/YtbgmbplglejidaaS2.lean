/- S2: the typed evaluator's helpers. No condition. -/
import Derived.Test.YtbgmbplglejidaaS1
set_option linter.unusedVariables false
namespace Go.Am
def fb {ρ:Type} (b:Bool) (x:Option ρ):Option ρ:=match b with|true=>x|false=>none
def cP {ρ:Type} (a b:Nat) (x:Option ρ):Option ρ:=match Nat.beq a b with|true=>x|false=>none
theorem cv {ρ:Type} {b:Bool} {x:Option ρ} {r:ρ} (h:fb b x=some r):b=true/\x=some r:=by
 cases b with
 |true=>exact⟨rfl,h⟩
 |false=>cases h
theorem bi {ρ:Type} {a b:Nat} {x:Option ρ} {r:ρ} (h:cP a b x=some r):a=b/\x=some r:=by
 unfold cP at h
 split at h
 ·rename_i e;exact⟨Nat.eq_of_beq_eq_true e,h⟩
 ·cases h
abbrev TD:=(t:Ty)×t.D
inductive cE where
 |t (n:Nat)
 |k (v:SV)
def cE.er:cE->MO
 |.t n=>.t n
 |.k v=>.k v.er
def af.ev (σ:af):cE->SV
 |.t n=>σ.env n
 |.k v=>v
theorem af.dv (σ:af) (x:cE):σ.er.ev x.er=(σ.ev x).er:=by cases x<;>rfl
def SV.cells?:SV->Option (Bool×List SC)
 |.one .bn=>none
 |.one c=>some (false,[c])
 |.agg cs=>some (true,cs)
 |.bq _=>none
theorem SV.ma {v:SV} {b:Bool} {cs:List SC} (h:v.cells?=some (b,cs)):v.er.cells?=some (b,cs.map SC.er):=by
 cases v with
 |one c=>cases c<;>simp[SV.cells?] at h<;>(obtain⟨rfl,rfl⟩:=h;rfl)
 |agg cs'=>simp[SV.cells?] at h;obtain⟨rfl,rfl⟩:=h;rfl
 |bq xs=>simp[SV.cells?] at h
def zT:Bool->List SC->SV
 |true,cs=>.agg cs
 |false,[c]=>.one c
 |false,_=>.one .bn
theorem CZ (b:Bool) (cs:List SC):(zT b cs).er=lO b (cs.map SC.er):=by
 cases b with
 |true=>rfl
 |false=>match cs with
  |[]=>rfl
  |[c]=>rfl
  |_::_::_=>rfl
section
variable {ρ:Type}
def Ih (op:BinOp) (k:IntKind) (a b:Int) (c:(t:Ty)->t.D->Option ρ):Option ρ:=
 match op with
 |.add=>c (.int k) (bS k a b)
 |.sub=>c (.int k) (fk k a b)
 |.mul=>c (.int k) (db k a b)
 |.quo=>(abQ k a b).aa fun x=>c (.int k) x
 |.rem=>(lG a b).aa fun x=>c (.int k) x
 |.and=>c (.int k) (qt k a b)
 |.or=>c (.int k) (orI k a b)
 |.xor=>c (.int k) (Wg k a b)
 |.eql=>c .bool (cJ a b)
 |.neq=>c .bool (kg a b)
 |.lss=>c .bool (bQ a b)
 |.leq=>c .bool (iS a b)
 |.gtr=>c .bool (bQ b a)
 |.geq=>c .bool (iS b a)
 |_=>none
theorem aeC {op:BinOp} {k:IntKind} {a b:Int} {c:(t:Ty)->t.D->Option ρ} {r:ρ} (h:Ih op k a b c=some r):
    ∃(t:Ty) (x:t.D),AH op k a b=some (t.er x)/\c t x=some r:=by
  cases op<;>first
    |exact⟨.int k,_,rfl,h⟩
    |exact⟨.bool,_,rfl,h⟩
    |(simp only[Ih,abQ,lG,eT] at h
      obtain⟨x,h1,h2⟩:=h
      split at h1
      · cases h1
      · rename_i hb
        injection h1 with h1
        subst h1
        exact⟨.int k,_,by simp[AH,hb,Ty.er],h2⟩)
    |(simp[Ih] at h)
def KV (op:BinOp) (k:IntKind) (a b:Int) (c:(t:Ty)->t.D->Option ρ):Option ρ:=
 match op with
 |.shl=>(zJ k a b).aa fun x=>c (.int k) x
 |.shr=>(tH k a b).aa fun x=>c (.int k) x
 |_=>none
theorem aoO {op:BinOp} {k:IntKind} {a b:Int} {c:(t:Ty)->t.D->Option ρ} {r:ρ} (h:KV op k a b c=some r):
    ∃(t:Ty) (x:t.D),FE op k a b=some (t.er x)/\c t x=some r:=by
  cases op<;>first
    |(simp only[KV,zJ,tH,eT] at h
      obtain⟨x,h1,h2⟩:=h
      split at h1
      · cases h1
      · rename_i hb
        injection h1 with h1
        subst h1
        exact⟨.int k,_,by simp[FE,hb,Ty.er],h2⟩)
    |(simp[KV] at h)
def MQ (op:BinOp) (x y:SV) (c:(t:Ty)->t.D->Option ρ):Option ρ:=
 match x,y with
 |.one (.v (.int k) a),.one (.v (.int k') b)=>match BinOp.y5 op with
  |true=>KV op k a b c
  |false=>match decide (k=k') with
   |true=>Ih op k a b c
   |false=>none
 |_,_=>none
theorem aeD {op:BinOp} {x y:SV} {c:(t:Ty)->t.D->Option ρ} {r:ρ} (h:MQ op x y c=some r):
  ∃(t:Ty) (z:t.D),vT op x.er y.er=some (t.er z)/\c t z=some r:=by
 unfold MQ at h
 split at h
 ·rename_i k a k' b
  split at h
  ·rename_i e
   obtain⟨t,z,h1,h2⟩:=aoO h
   exact⟨t,z,by simp[SV.er,SC.er,Ty.er,vT,e];exact h1,h2⟩
  ·rename_i e
   split at h
   ·rename_i hk
    have hk:=of_decide_eq_true hk
    obtain⟨t,z,h1,h2⟩:=aeC h
    exact⟨t,z,by simp[SV.er,SC.er,Ty.er,vT,e,hk];subst hk;exact h1,h2⟩
   ·cases h
 ·cases h
def MP (op:BinOp) (x y:SV) (c:(t:Ty)->t.D->Option ρ):Option ρ:=
 match x,y with
 |.one (.v .bool a),.one (.v .bool b)=>match op with
  |.eql=>c .bool (eqB a b)
  |.neq=>c .bool (neB a b)
  |_=>none
 |_,_=>none
theorem aeB {op:BinOp} {x y:SV} {c:(t:Ty)->t.D->Option ρ} {r:ρ} (h:MP op x y c=some r):
  ∃(t:Ty) (z:t.D),AG op x.er y.er=some (t.er z)/\c t z=some r:=by
 unfold MP at h
 split at h
 ·rename_i a b
  split at h
  ·exact⟨.bool,_,rfl,h⟩
  ·exact⟨.bool,_,rfl,h⟩
  ·cases h
 ·cases h
def V3 (op:UnOp) (x:SV) (c:(t:Ty)->t.D->Option ρ):Option ρ:=
 match x with
 |.one (.v .bool a)=>match op with
  |.not=>c .bool (fi a)
  |_=>none
 |.one (.v (.int k) a)=>match op with
  |.neg=>c (.int k) (amb k a)
  |_=>none
 |_=>none
theorem apQ {op:UnOp} {x:SV} {c:(t:Ty)->t.D->Option ρ} {r:ρ} (h:V3 op x c=some r):
  ∃(t:Ty) (z:t.D),C1 op x.er=some (t.er z)/\c t z=some r:=by
 unfold V3 at h
 split at h
 ·rename_i a
  split at h
  ·exact⟨.bool,_,rfl,h⟩
  ·cases h
 ·rename_i k a
  split at h
  ·exact⟨.int k,_,rfl,h⟩
  ·cases h
 ·cases h
def SV.dj:SV->Option Int
 |.one (.v (.int k) n)=>some n
 |_=>none
theorem SV.y3 {v:SV} {n:Int} (h:v.dj=some n):v.er.dj=some n:=by
 unfold SV.dj at h
 split at h
 ·injection h with h;subst h;rfl
 ·cases h
def FN (h:Nat->Option SB) (p:SC) (sz:Nat) (c:List SC->Option ρ):Option ρ:=
 match p with
 |.ptr n k aA off=>match h n with
  |some (.box cs)=>cP k 0 (match sub cs off sz with|some l=>c l|none=>none)
  |some (.row _ m ts xs)=>cP aA ts.length ((cZ xs k).aa fun e=>
   match sub (match m with|.live=>Ty.live n k ts.length 0 ts e|_=>Ty.cells ts e) off sz with
   |some l=>c l
   |none=>none)
  |none=>none
 |.cB ts x off=>match sub (Ty.cells ts x) off sz with|some l=>c l|none=>none
 |_=>none
theorem Vf {h:Nat->Option SB} {p:SC} {sz:Nat} {c:List SC->Option ρ} {r:ρ} (hx:FN h p sz c=some r):
  ∃l,loadAt (cY h) p.er sz=some (l.map SC.er)/\c l=some r:=by
 unfold FN at hx
 split at hx
 ·rename_i n k aA off
  split at hx
  ·rename_i cs hn
   have bu:=(bi hx).1;replace hx:=(bi hx).2;subst bu
   split at hx
   ·rename_i l e
    refine⟨l,?_,hx⟩
    simp[SC.er,loadAt,cY,hn,SB.er,tL,e]
   ·cases hx
  ·rename_i gr m ts xs hn
   have bu:=(bi hx).1;replace hx:=(bi hx).2;subst bu
   rw[eT] at hx
   obtain⟨e,he,hx⟩:=hx
   replace he:xs[k]? =some e:=he
   split at hx
   ·rename_i l hl
    refine⟨l,?_,hx⟩
    have nN:(List.map (Ty.aI ts) xs)[k]? =some (Ty.aI ts e):=by rw[List.getElem?_map,he];rfl
    simp only[SC.er,loadAt,cY,hn,Option.map_some,SB.er,if_true,nN]
    cases m with
    |live=>
     simp only at hl
     have:=congrArg (Option.map (List.map SC.er)) hl
     rw[<-tL,Ty.aaN,apt] at this
     cases hs:sub (Ty.aI ts e) off sz with
     |none=>rw[hs] at this;cases this
     |some l'=>rw[hs] at this;simpa using this
    |ab=>
     simp only at hl
     have:=congrArg (Option.map (List.map SC.er)) hl
     rw[<-tL,Ty.ma,tL] at this
     cases hs:sub (Ty.aI ts e) off sz with
     |none=>rw[hs] at this;cases this
     |some l'=>rw[hs] at this;simpa using this
    |aF=>
     simp only at hl
     have:=congrArg (Option.map (List.map SC.er)) hl
     rw[<-tL,Ty.ma,tL] at this
     cases hs:sub (Ty.aI ts e) off sz with
     |none=>rw[hs] at this;cases this
     |some l'=>rw[hs] at this;simpa using this
   ·cases hx
  ·cases hx
 ·rename_i ts x off
  split at hx
  ·rename_i l hl
   refine⟨l,?_,hx⟩
   have:=congrArg (Option.map (List.map SC.er)) hl
   rw[<-tL,Ty.ma,tL] at this
   simpa[SC.er,loadAt] using this
  ·cases hx
 ·cases hx
theorem Nm:∀{ts:List Ty} {e:Ty.DL ts} {off:Nat} {x:TD},(Ty.ie ts e)[off]? =some x->(Ty.aI ts e)[off]? =some (x.1.er x.2):=by
 intro ts e off x h
 rw[<-Ty.qy,cF,List.getElem?_map,h]
 rfl
def xt (h:Nat->Option SB) (c:SC) (k:(t:Ty)->t.D->Option ρ):Option ρ:=
 match c with
 |.v t x=>k t x
 |.nil ts=>match ts with
  |[]=>none
  |t::us=>k (.list (t::us)) ([]:List (Ty.DL (t::us)))
 |.sl n sz lo len=>match h n with
  |some (.row _ _ ts xs)=>cP ts.length sz ((df xs lo len).aa fun ys=>k (.list ts) ys)
  |_=>none
 |.bx n kk aA off sz len=>match h n with
  |some (.row _ .live ts xs)=>cP ts.length aA ((cZ xs kk).aa fun e=>match(Ty.ie ts e)[off]? with
   |some ⟨t,x⟩=>k t x
   |none=>none)
  |_=>none
 |_=>none
theorem adX {ts:List Ty} {xs ys:List (Ty.DL ts)} {lo len:Nat} (h:df xs lo len=some ys):lo+len<=xs.length/\((List.map (Ty.aI ts) xs).drop lo).take len=List.map (Ty.aI ts) ys:=by
 unfold df at h
 split at h
 ·rename_i hl
  injection h with h
  subst h
  exact⟨hl,by simp[List.map_drop,List.map_take]⟩
 ·cases h
theorem CX {h:Nat->Option SB} {c:SC} {k:(t:Ty)->t.D->Option ρ} {r:ρ} (hx:xt h c k=some r):
  ∃(t:Ty) (x:t.D),cq (cY h) c.er=some (t.er x)/\k t x=some r:=by
 unfold xt at hx
 split at hx
 ·exact⟨_,_,rfl,hx⟩
 ·split at hx
  ·cases hx
  ·rename_i t us
   exact⟨.list (t::us),[],by simp[SC.er,cq,Ty.er],hx⟩
 ·rename_i n sz lo len
  split at hx
  ·rename_i gr m ts xs hn
   have bu:=(bi hx).1;replace hx:=(bi hx).2;subst bu
   rw[eT] at hx
   obtain⟨ys,hw,hx⟩:=hx
   obtain⟨w1,w2⟩:=adX hw
   refine⟨.list ts,ys,?_,hx⟩
   simp only[SC.er,cq,cY,hn,Option.map_some,SB.er,List.length_map,Ty.er,w2,w1,and_self,if_true]
  ·cases hx
 ·rename_i n kk aA off sz len
  split at hx
  ·rename_i gr ts xs hn
   have bu:=(bi hx).1;replace hx:=(bi hx).2;subst bu
   rw[eT] at hx
   obtain⟨e,he,hx⟩:=hx
   replace he:xs[kk]? =some e:=he
   split at hx
   ·rename_i t x hd
    refine⟨t,x,?_,hx⟩
    have:=Nm hd
    simp only[SC.er,cq,cY,hn,Option.map_some,SB.er,if_true,List.getElem?_map,he,Option.bind_some,this]
   ·cases hx
  ·cases hx
 ·cases hx
def zR (h:Nat->Option SB):List SC->(List TD->Option ρ)->Option ρ
 |[],k=>k []
 |c::cs,k=>xt h c fun t x=>zR h cs fun l=>k (⟨t,x⟩::l)
theorem F6 {h:Nat->Option SB}:∀{cs:List SC} {k:List TD->Option ρ} {r:ρ},zR h cs k=some r->
  ∃l,gU (cY h) (cs.map SC.er)=some (cF l)/\k l=some r
 |[],k,r,hx=>⟨[],rfl,hx⟩
 |c::cs,k,r,hx=>by
  simp only[zR] at hx
  obtain⟨t,x,h1,h2⟩:=CX hx
  obtain⟨l,h3,h4⟩:=F6 h2
  exact⟨⟨t,x⟩::l,by simp[gU,h1,h3,cF],h4⟩
abbrev bW:=K×List TD
def bW.er (d:bW):Dv:=(d.1,cF d.2)
def VO (h:Nat->Option SB) (v:SV) (k:bW->Option ρ):Option ρ:=
 match v with
 |.one (.ptr n kk sz off)=>match h n with
  |some (.box cs)=>cP kk 0 (cP off 0 (zR h cs fun l=>k (.ptr,l)))
  |_=>none
 |.one (.cB ts x off)=>cP off 0 (k (.ptr,Ty.ie ts x))
 |.one c=>xt h c fun t x=>k (.one,[⟨t,x⟩])
 |.agg cs=>zR h cs fun l=>k (.agg,l)
 |.bq _=>none
theorem apu {h:Nat->Option SB} {v:SV} {k:bW->Option ρ} {r:ρ} (hx:VO h v k=some r):
  ∃d:bW,iv (cY h) v.er=some d.er/\k d=some r:=by
 unfold VO at hx
 split at hx
 ·rename_i n kk sz off
  split at hx
  ·rename_i cs hn
   have bu:=(bi hx).1;replace hx:=(bi hx).2;subst bu
   have bu:=(bi hx).1;replace hx:=(bi hx).2;subst bu
   obtain⟨l,h1,h2⟩:=F6 hx
   exact⟨(.ptr,l),by simp[SV.er,SC.er,iv,cY,hn,SB.er];exact⟨_,h1,rfl⟩,h2⟩
  ·cases hx
 ·rename_i ts x off
  have bu:=(bi hx).1;replace hx:=(bi hx).2;subst bu
  exact⟨(.ptr,Ty.ie ts x),by simp[SV.er,SC.er,iv,bW.er,Ty.qy],hx⟩
 ·rename_i c hp hd
  obtain⟨t,x,h1,h2⟩:=CX hx
  refine⟨(.one,[⟨t,x⟩]),?_,h2⟩
  cases c with
  |ptr n kk sz off=>exact absurd rfl (hp n kk sz off)
  |cB ts x off=>exact absurd rfl (hd ts x off)
  |v t' x'=>simp only[SV.er,SC.er,iv] at h1⊢;rw[h1];rfl
  |nil ts=>simp only[SV.er,SC.er,iv] at h1⊢;rw[h1];rfl
  |sl n sz lo len=>simp only[SV.er,SC.er,iv] at h1⊢;rw[h1];rfl
  |bx n a b c' d e=>simp only[SV.er,SC.er,iv] at h1⊢;rw[h1];rfl
  |cV n a b c' d e=>simp only[SV.er,SC.er,iv] at h1⊢;rw[h1];rfl
  |fn f cA=>simp only[SV.er,SC.er,iv] at h1⊢;rw[h1];rfl
  |bn=>simp only[SV.er,SC.er,iv] at h1⊢;rw[h1];rfl
 ·obtain⟨l,h1,h2⟩:=F6 hx
  exact⟨(.agg,l),by simp[SV.er,iv,h1,bW.er],h2⟩
 ·cases hx
def F5 (h:Nat->Option SB):List SV->(List bW->Option ρ)->Option ρ
 |[],k=>k []
 |v::vs,k=>VO h v fun d=>F5 h vs fun l=>k (d::l)
theorem VP {h:Nat->Option SB}:∀{vs:List SV} {k:List bW->Option ρ} {r:ρ},F5 h vs k=some r->
  ∃l,kO (cY h) (vs.map SV.er)=some (l.map bW.er)/\k l=some r
 |[],k,r,hx=>⟨[],rfl,hx⟩
 |v::vs,k,r,hx=>by
  simp only[F5] at hx
  obtain⟨d,h1,h2⟩:=apu hx
  obtain⟨l,h3,h4⟩:=VP h2
  exact⟨d::l,by simp[kO,h1,h3],h4⟩
def Mode.own:Mode->Bool
 |.aF=>false
 |_=>true
theorem Mode.amz (m:Mode):decide (m≠ .aF)=m.own:=by cases m<;>rfl
def VH (σ:af) (c:SC) (k:(t:Ty)->t.D->Bool->af->Option ρ):Option ρ:=
 match c with
 |.v t x=>k t x t.eR σ
 |.nil ts=>match ts with
  |[]=>none
  |t::us=>k (.list (t::us)) ([]:List (Ty.DL (t::us))) true σ
 |.sl n sz lo len=>match σ.h n with
  |some (.row _ m ts xs)=>cP ts.length sz (cP lo 0 ((dt xs len).aa fun ys=>k (.list ts) ys m.own (σ.del n)))
  |_=>none
 |_=>none
theorem ady {ts:List Ty} {xs ys:List (Ty.DL ts)} {len:Nat} (h:dt xs len=some ys):len<=xs.length/\(List.map (Ty.aI ts) xs).take len=List.map (Ty.aI ts) ys:=by
 unfold dt at h
 split at h
 ·rename_i hl
  injection h with h
  subst h
  exact⟨hl,by simp[List.map_take]⟩
 ·cases h
theorem apn {σ:af} {c:SC} {k:(t:Ty)->t.D->Bool->af->Option ρ} {r:ρ} (hx:VH σ c k=some r):
  ∃(t:Ty) (x:t.D) (o:Bool) (σ1:af),σ.er.fQ c.er=some (t.er x,o,σ1.er)/\k t x o σ1=some r:=by
 unfold VH at hx
 split at hx
 ·rename_i t x
  exact⟨_,_,_,_,by simp only[SC.er,St.fQ,Ty.xg],hx⟩
 ·split at hx
  ·cases hx
  ·rename_i t us
   exact⟨.list (t::us),[],true,σ,by simp[SC.er,St.fQ,Ty.er],hx⟩
 ·rename_i n sz lo len
  split at hx
  ·rename_i gr m ts xs hn
   have bu:=(bi hx).1;replace hx:=(bi hx).2;subst bu
   have bu:=(bi hx).1;replace hx:=(bi hx).2;subst bu
   rw[eT] at hx
   obtain⟨ys,hw,hx⟩:=hx
   obtain⟨w1,w2⟩:=ady hw
   refine⟨.list ts,ys,m.own,σ.del n,?_,hx⟩
   have bk:σ.er.h n=some (.row gr m ts.length (List.map (Ty.aI ts) xs)):=by simp[af.er,cY,hn,SB.er]
   simp only[SC.er,St.fQ,bk,List.length_map,w1,w2,and_self,if_true,Ty.er,af.IW,Mode.amz]
  ·cases hx
 ·cases hx
def zP (σ:af):List SC->(List TD->Bool->af->Option ρ)->Option ρ
 |[],k=>k [] true σ
 |c::cs,k=>VH σ c fun t x o σ1=>zP σ1 cs fun l o' σ2=>k (⟨t,x⟩::l) (o&&o') σ2
theorem F3:∀{cs:List SC} {σ:af} {k:List TD->Bool->af->Option ρ} {r:ρ},zP σ cs k=some r->
  ∃(l:List TD) (o:Bool) (σ1:af),σ.er.fv (cs.map SC.er)=some (cF l,o,σ1.er)/\k l o σ1=some r
 |[],σ,k,r,hx=>⟨[],true,σ,rfl,hx⟩
 |c::cs,σ,k,r,hx=>by
  simp only[zP] at hx
  obtain⟨t,x,o,σ1,h1,h2⟩:=apn hx
  obtain⟨l,o',σ2,h3,h4⟩:=F3 h2
  exact⟨⟨t,x⟩::l,o&&o',σ2,by simp[St.fv,h1,h3,cF],h4⟩
def Lf (ts:List Ty) (σ:af):List SV->(List (Ty.DL ts)->Bool->af->Option ρ)->Option ρ
 |[],k=>k [] true σ
 |v::vs,k=>match v.cells? with
  |some (_,cs)=>zP σ cs fun l o σ1=>match q9 ts l with
   |some e=>Lf ts σ1 vs fun es o' σ2=>k (e::es) (o&&o') σ2
   |none=>none
  |none=>none
theorem adD:∀{cs:List ah} {σ σ1:St} {l:List C} {o:Bool},σ.fv cs=some (l,o,σ1)->l.length=cs.length
 |[],σ,σ1,l,o,h=>by simp[St.fv] at h;rw[h.1];rfl
 |c::cs,σ,σ1,l,o,h=>by
  simp only[St.fv] at h
  split at h
  ·split at h
   ·rename_i e2
    injection h with h
    injection h with h h2
    subst h
    simp[adD e2]
   ·cases h
  ·cases h
theorem adl {ts:List Ty}:∀{vs:List SV} {σ:af} {k:List (Ty.DL ts)->Bool->af->Option ρ} {r:ρ},Lf ts σ vs k=some r->
  ∃(es:List (Ty.DL ts)) (o:Bool) (σ1:af),σ.er.lM ts.length (vs.map SV.er)=some (List.map (Ty.aI ts) es,o,σ1.er)/\k es o σ1=some r
 |[],σ,k,r,hx=>⟨[],true,σ,rfl,hx⟩
 |v::vs,σ,k,r,hx=>by
  simp only[Lf] at hx
  split at hx
  ·rename_i b cs hc
   obtain⟨l,o,σ1,h1,h2⟩:=F3 hx
   split at h2
   ·rename_i e he
    obtain⟨es,o',σ2,h3,h4⟩:=adl h2
    have hl:(cs.map SC.er).length=ts.length:=by
     have a:=adD h1
     rw[<-wU he,Ty.DT] at a
     exact a.symm
    refine⟨e::es,o&&o',σ2,?_,h4⟩
    simp only[List.map_cons,St.lM,SV.ma hc,hl,if_true,h1,h3,wU he]
   ·cases h2
  ·cases hx
end
end Go.Am
