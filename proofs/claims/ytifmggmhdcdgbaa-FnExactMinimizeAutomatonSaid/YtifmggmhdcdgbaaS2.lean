/- S2: the typed evaluator's helpers. No condition. -/
import Derived.Test.YtifmggmhdcdgbaaS1
set_option linter.unusedVariables false
namespace Go.Am
def eS {ρ:Type} (b:Bool) (x:Option ρ):Option ρ:=match b with|true=>x|false=>none
def cC {ρ:Type} (a b:Nat) (x:Option ρ):Option ρ:=match Nat.beq a b with|true=>x|false=>none
theorem bY {ρ:Type} {b:Bool} {x:Option ρ} {r:ρ} (h:eS b x=some r):b=true/\x=some r:=by
 cases b with
 |true=>exact⟨rfl,h⟩
 |false=>cases h
theorem ba {ρ:Type} {a b:Nat} {x:Option ρ} {r:ρ} (h:cC a b x=some r):a=b/\x=some r:=by
 unfold cC at h
 split at h
 ·rename_i e;exact⟨Nat.eq_of_beq_eq_true e,h⟩
 ·cases h
abbrev TD:=(t:Ty)×t.D
inductive cD where
 |t (n:Nat)
 |k (v:SV)
def cD.er:cD->MO
 |.t n=>.t n
 |.k v=>.k v.er
def af.ev (σ:af):cD->SV
 |.t n=>σ.env n
 |.k v=>v
theorem af.dk (σ:af) (x:cD):σ.er.ev x.er=(σ.ev x).er:=by cases x<;>rfl
def SV.cells?:SV->Option (Bool×List SC)
 |.one .bj=>none
 |.one c=>some (false,[c])
 |.agg cs=>some (true,cs)
 |.bk _=>none
theorem SV.mz {v:SV} {b:Bool} {cs:List SC} (h:v.cells?=some (b,cs)):v.er.cells?=some (b,cs.map SC.er):=by
 cases v with
 |one c=>cases c<;>simp[SV.cells?] at h<;>(obtain⟨rfl,rfl⟩:=h;rfl)
 |agg cs'=>simp[SV.cells?] at h;obtain⟨rfl,rfl⟩:=h;rfl
 |bk xs=>simp[SV.cells?] at h
def BC:Bool->List SC->SV
 |true,cs=>.agg cs
 |false,[c]=>.one c
 |false,_=>.one .bj
theorem Eo (b:Bool) (cs:List SC):(BC b cs).er=mW b (cs.map SC.er):=by
 cases b with
 |true=>rfl
 |false=>match cs with
  |[]=>rfl
  |[c]=>rfl
  |_::_::_=>rfl
section
variable {ρ:Type}
def Gf (op:BinOp) (k:IntKind) (a b:Int) (c:(t:Ty)->t.D->Option ρ):Option ρ:=
 match op with
 |.add=>c (.int k) (aM k a b)
 |.sub=>c (.int k) (mf k a b)
 |.mul=>c (.int k) (cz k a b)
 |.quo=>(DK k a b).U fun x=>c (.int k) x
 |.rem=>(gQ a b).U fun x=>c (.int k) x
 |.and=>c (.int k) (Ga k a b)
 |.or=>c (.int k) (orI k a b)
 |.xor=>c (.int k) (alr k a b)
 |.eql=>c .bool (lI a b)
 |.neq=>c .bool (dB a b)
 |.lss=>c .bool (bc a b)
 |.leq=>c .bool (qk a b)
 |.gtr=>c .bool (bc b a)
 |.geq=>c .bool (qk b a)
 |_=>none
theorem aaO {op:BinOp} {k:IntKind} {a b:Int} {c:(t:Ty)->t.D->Option ρ} {r:ρ} (h:Gf op k a b c=some r):
    ∃(t:Ty) (x:t.D),zl op k a b=some (t.er x)/\c t x=some r:=by
  cases op<;>first
    |exact⟨.int k,_,rfl,h⟩
    |exact⟨.bool,_,rfl,h⟩
    |(simp only[Gf,DK,gQ,eY] at h
      obtain⟨x,h1,h2⟩:=h
      split at h1
      · cases h1
      · rename_i hb
        injection h1 with h1
        subst h1
        exact⟨.int k,_,by simp[zl,hb,Ty.er],h2⟩)
    |(simp[Gf] at h)
def IZ (op:BinOp) (k:IntKind) (a b:Int) (c:(t:Ty)->t.D->Option ρ):Option ρ:=
 match op with
 |.shl=>(Zc k a b).U fun x=>c (.int k) x
 |.shr=>(Bm k a b).U fun x=>c (.int k) x
 |_=>none
theorem akm {op:BinOp} {k:IntKind} {a b:Int} {c:(t:Ty)->t.D->Option ρ} {r:ρ} (h:IZ op k a b c=some r):
    ∃(t:Ty) (x:t.D),DZ op k a b=some (t.er x)/\c t x=some r:=by
  cases op<;>first
    |(simp only[IZ,Zc,Bm,eY] at h
      obtain⟨x,h1,h2⟩:=h
      split at h1
      · cases h1
      · rename_i hb
        injection h1 with h1
        subst h1
        exact⟨.int k,_,by simp[DZ,hb,Ty.er],h2⟩)
    |(simp[IZ] at h)
def KA (op:BinOp) (x y:SV) (c:(t:Ty)->t.D->Option ρ):Option ρ:=
 match x,y with
 |.one (.v (.int k) a),.one (.v (.int k') b)=>match BinOp.yb op with
  |true=>IZ op k a b c
  |false=>match decide (k=k') with
   |true=>Gf op k a b c
   |false=>none
 |_,_=>none
theorem aaP {op:BinOp} {x y:SV} {c:(t:Ty)->t.D->Option ρ} {r:ρ} (h:KA op x y c=some r):
  ∃(t:Ty) (z:t.D),vg op x.er y.er=some (t.er z)/\c t z=some r:=by
 unfold KA at h
 split at h
 ·rename_i k a k' b
  split at h
  ·rename_i e
   obtain⟨t,z,h1,h2⟩:=akm h
   exact⟨t,z,by simp[SV.er,SC.er,Ty.er,vg,e];exact h1,h2⟩
  ·rename_i e
   split at h
   ·rename_i hk
    have hk:=of_decide_eq_true hk
    obtain⟨t,z,h1,h2⟩:=aaO h
    exact⟨t,z,by simp[SV.er,SC.er,Ty.er,vg,e,hk];subst hk;exact h1,h2⟩
   ·cases h
 ·cases h
def Kz (op:BinOp) (x y:SV) (c:(t:Ty)->t.D->Option ρ):Option ρ:=
 match x,y with
 |.one (.v .bool a),.one (.v .bool b)=>match op with
  |.eql=>c .bool (eqB a b)
  |.neq=>c .bool (X3 a b)
  |_=>none
 |_,_=>none
theorem aaN {op:BinOp} {x y:SV} {c:(t:Ty)->t.D->Option ρ} {r:ρ} (h:Kz op x y c=some r):
  ∃(t:Ty) (z:t.D),zk op x.er y.er=some (t.er z)/\c t z=some r:=by
 unfold Kz at h
 split at h
 ·rename_i a b
  split at h
  ·exact⟨.bool,_,rfl,h⟩
  ·exact⟨.bool,_,rfl,h⟩
  ·cases h
 ·cases h
def Tj (op:UnOp) (x:SV) (c:(t:Ty)->t.D->Option ρ):Option ρ:=
 match x with
 |.one (.v .bool a)=>match op with
  |.not=>c .bool (eC a)
  |_=>none
 |.one (.v (.int k) a)=>match op with
  |.neg=>c (.int k) (ait k a)
  |_=>none
 |_=>none
theorem ak5 {op:UnOp} {x:SV} {c:(t:Ty)->t.D->Option ρ} {r:ρ} (h:Tj op x c=some r):
  ∃(t:Ty) (z:t.D),BE op x.er=some (t.er z)/\c t z=some r:=by
 unfold Tj at h
 split at h
 ·rename_i a
  split at h
  ·exact⟨.bool,_,rfl,h⟩
  ·cases h
 ·rename_i k a
  split at h
  ·exact⟨.int k,_,rfl,h⟩
  ·cases h
 ·cases h
def SV.dc:SV->Option Int
 |.one (.v (.int k) n)=>some n
 |_=>none
theorem SV.x9 {v:SV} {n:Int} (h:v.dc=some n):v.er.dc=some n:=by
 unfold SV.dc at h
 split at h
 ·injection h with h;subst h;rfl
 ·cases h
def I3 (h:Nat->Option SB) (p:SC) (sz:Nat) (c:List SC->Option ρ):Option ρ:=
 match p with
 |.ptr n k ax off=>match h n with
  |some (.box cs)=>cC k 0 (match sub cs off sz with|some l=>c l|none=>none)
  |some (.row _ m ts xs)=>cC ax ts.length ((dg xs k).U fun e=>
   match sub (match m with|.live=>Ty.live n k ts.length 0 ts e|_=>Ty.cells ts e) off sz with
   |some l=>c l
   |none=>none)
  |none=>none
 |.cf ts x off=>match sub (Ty.cells ts x) off sz with|some l=>c l|none=>none
 |_=>none
theorem Zj {h:Nat->Option SB} {p:SC} {sz:Nat} {c:List SC->Option ρ} {r:ρ} (hx:I3 h p sz c=some r):
  ∃l,loadAt (cT h) p.er sz=some (l.map SC.er)/\c l=some r:=by
 unfold I3 at hx
 split at hx
 ·rename_i n k ax off
  split at hx
  ·rename_i cs hn
   have bm:=(ba hx).1;replace hx:=(ba hx).2;subst bm
   split at hx
   ·rename_i l e
    refine⟨l,?_,hx⟩
    simp[SC.er,loadAt,cT,hn,SB.er,s7,e]
   ·cases hx
  ·rename_i gr m ts xs hn
   have bm:=(ba hx).1;replace hx:=(ba hx).2;subst bm
   rw[eY] at hx
   obtain⟨e,he,hx⟩:=hx
   replace he:xs[k]? =some e:=he
   split at hx
   ·rename_i l hl
    refine⟨l,?_,hx⟩
    have np:(List.map (Ty.aH ts) xs)[k]? =some (Ty.aH ts e):=by rw[List.getElem?_map,he];rfl
    simp only[SC.er,loadAt,cT,hn,Option.map_some,SB.er,if_true,np]
    cases m with
    |live=>
     simp only at hl
     have:=congrArg (Option.map (List.map SC.er)) hl
     rw[<-s7,Ty.XD,akP] at this
     cases hs:sub (Ty.aH ts e) off sz with
     |none=>rw[hs] at this;cases this
     |some l'=>rw[hs] at this;simpa using this
    |aa=>
     simp only at hl
     have:=congrArg (Option.map (List.map SC.er)) hl
     rw[<-s7,Ty.mz,s7] at this
     cases hs:sub (Ty.aH ts e) off sz with
     |none=>rw[hs] at this;cases this
     |some l'=>rw[hs] at this;simpa using this
    |aF=>
     simp only at hl
     have:=congrArg (Option.map (List.map SC.er)) hl
     rw[<-s7,Ty.mz,s7] at this
     cases hs:sub (Ty.aH ts e) off sz with
     |none=>rw[hs] at this;cases this
     |some l'=>rw[hs] at this;simpa using this
   ·cases hx
  ·cases hx
 ·rename_i ts x off
  split at hx
  ·rename_i l hl
   refine⟨l,?_,hx⟩
   have:=congrArg (Option.map (List.map SC.er)) hl
   rw[<-s7,Ty.mz,s7] at this
   simpa[SC.er,loadAt] using this
  ·cases hx
 ·cases hx
theorem K6:∀{ts:List Ty} {e:Ty.DL ts} {off:Nat} {x:TD},(Ty.gW ts e)[off]? =some x->(Ty.aH ts e)[off]? =some (x.1.er x.2):=by
 intro ts e off x h
 rw[<-Ty.pK,cj,List.getElem?_map,h]
 rfl
def wJ (h:Nat->Option SB) (c:SC) (k:(t:Ty)->t.D->Option ρ):Option ρ:=
 match c with
 |.v t x=>k t x
 |.nil ts=>match ts with
  |[]=>none
  |t::us=>k (.list (t::us)) ([]:List (Ty.DL (t::us)))
 |.sl n sz lo len=>match h n with
  |some (.row _ _ ts xs)=>cC ts.length sz ((bg xs lo len).U fun ys=>k (.list ts) ys)
  |_=>none
 |.bt n kk ax off sz len=>match h n with
  |some (.row _ .live ts xs)=>cC ts.length ax ((dg xs kk).U fun e=>match(Ty.gW ts e)[off]? with
   |some ⟨t,x⟩=>k t x
   |none=>none)
  |_=>none
 |_=>none
theorem aan {ts:List Ty} {xs ys:List (Ty.DL ts)} {lo len:Nat} (h:bg xs lo len=some ys):lo+len<=xs.length/\((List.map (Ty.aH ts) xs).drop lo).take len=List.map (Ty.aH ts) ys:=by
 unfold bg at h
 split at h
 ·rename_i hl
  injection h with h
  subst h
  exact⟨hl,by simp[List.map_drop,List.map_take]⟩
 ·cases h
theorem BB {h:Nat->Option SB} {c:SC} {k:(t:Ty)->t.D->Option ρ} {r:ρ} (hx:wJ h c k=some r):
  ∃(t:Ty) (x:t.D),bU (cT h) c.er=some (t.er x)/\k t x=some r:=by
 unfold wJ at hx
 split at hx
 ·exact⟨_,_,rfl,hx⟩
 ·split at hx
  ·cases hx
  ·rename_i t us
   exact⟨.list (t::us),[],by simp[SC.er,bU,Ty.er],hx⟩
 ·rename_i n sz lo len
  split at hx
  ·rename_i gr m ts xs hn
   have bm:=(ba hx).1;replace hx:=(ba hx).2;subst bm
   rw[eY] at hx
   obtain⟨ys,hw,hx⟩:=hx
   obtain⟨w1,w2⟩:=aan hw
   refine⟨.list ts,ys,?_,hx⟩
   simp only[SC.er,bU,cT,hn,Option.map_some,SB.er,List.length_map,Ty.er,w2,w1,and_self,if_true]
  ·cases hx
 ·rename_i n kk ax off sz len
  split at hx
  ·rename_i gr ts xs hn
   have bm:=(ba hx).1;replace hx:=(ba hx).2;subst bm
   rw[eY] at hx
   obtain⟨e,he,hx⟩:=hx
   replace he:xs[kk]? =some e:=he
   split at hx
   ·rename_i t x hd
    refine⟨t,x,?_,hx⟩
    have:=K6 hd
    simp only[SC.er,bU,cT,hn,Option.map_some,SB.er,if_true,List.getElem?_map,he,Option.bind_some,this]
   ·cases hx
  ·cases hx
 ·cases hx
def yJ (h:Nat->Option SB):List SC->(List TD->Option ρ)->Option ρ
 |[],k=>k []
 |c::cs,k=>wJ h c fun t x=>yJ h cs fun l=>k (⟨t,x⟩::l)
theorem Ei {h:Nat->Option SB}:∀{cs:List SC} {k:List TD->Option ρ} {r:ρ},yJ h cs k=some r->
  ∃l,gE (cT h) (cs.map SC.er)=some (cj l)/\k l=some r
 |[],k,r,hx=>⟨[],rfl,hx⟩
 |c::cs,k,r,hx=>by
  simp only[yJ] at hx
  obtain⟨t,x,h1,h2⟩:=BB hx
  obtain⟨l,h3,h4⟩:=Ei h2
  exact⟨⟨t,x⟩::l,by simp[gE,h1,h3,cj],h4⟩
abbrev bR:=K×List TD
def bR.er (d:bR):Dv:=(d.1,cj d.2)
def S6 (h:Nat->Option SB) (v:SV) (k:bR->Option ρ):Option ρ:=
 match v with
 |.one (.ptr n kk sz off)=>match h n with
  |some (.box cs)=>cC kk 0 (cC off 0 (yJ h cs fun l=>k (.ptr,l)))
  |_=>none
 |.one (.cf ts x off)=>cC off 0 (k (.ptr,Ty.gW ts x))
 |.one c=>wJ h c fun t x=>k (.one,[⟨t,x⟩])
 |.agg cs=>yJ h cs fun l=>k (.agg,l)
 |.bk _=>none
theorem akQ {h:Nat->Option SB} {v:SV} {k:bR->Option ρ} {r:ρ} (hx:S6 h v k=some r):
  ∃d:bR,ij (cT h) v.er=some d.er/\k d=some r:=by
 unfold S6 at hx
 split at hx
 ·rename_i n kk sz off
  split at hx
  ·rename_i cs hn
   have bm:=(ba hx).1;replace hx:=(ba hx).2;subst bm
   have bm:=(ba hx).1;replace hx:=(ba hx).2;subst bm
   obtain⟨l,h1,h2⟩:=Ei hx
   exact⟨(.ptr,l),by simp[SV.er,SC.er,ij,cT,hn,SB.er];exact⟨_,h1,rfl⟩,h2⟩
  ·cases hx
 ·rename_i ts x off
  have bm:=(ba hx).1;replace hx:=(ba hx).2;subst bm
  exact⟨(.ptr,Ty.gW ts x),by simp[SV.er,SC.er,ij,bR.er,Ty.pK],hx⟩
 ·rename_i c hp hd
  obtain⟨t,x,h1,h2⟩:=BB hx
  refine⟨(.one,[⟨t,x⟩]),?_,h2⟩
  cases c with
  |ptr n kk sz off=>exact absurd rfl (hp n kk sz off)
  |cf ts x off=>exact absurd rfl (hd ts x off)
  |v t' x'=>simp only[SV.er,SC.er,ij] at h1⊢;rw[h1];rfl
  |nil ts=>simp only[SV.er,SC.er,ij] at h1⊢;rw[h1];rfl
  |sl n sz lo len=>simp only[SV.er,SC.er,ij] at h1⊢;rw[h1];rfl
  |bt n a b c' d e=>simp only[SV.er,SC.er,ij] at h1⊢;rw[h1];rfl
  |cB n a b c' d e=>simp only[SV.er,SC.er,ij] at h1⊢;rw[h1];rfl
  |fn f ca=>simp only[SV.er,SC.er,ij] at h1⊢;rw[h1];rfl
  |bj=>simp only[SV.er,SC.er,ij] at h1⊢;rw[h1];rfl
 ·obtain⟨l,h1,h2⟩:=Ei hx
  exact⟨(.agg,l),by simp[SV.er,ij,h1,bR.er],h2⟩
 ·cases hx
def Eh (h:Nat->Option SB):List SV->(List bR->Option ρ)->Option ρ
 |[],k=>k []
 |v::vs,k=>S6 h v fun d=>Eh h vs fun l=>k (d::l)
theorem S7 {h:Nat->Option SB}:∀{vs:List SV} {k:List bR->Option ρ} {r:ρ},Eh h vs k=some r->
  ∃l,kJ (cT h) (vs.map SV.er)=some (l.map bR.er)/\k l=some r
 |[],k,r,hx=>⟨[],rfl,hx⟩
 |v::vs,k,r,hx=>by
  simp only[Eh] at hx
  obtain⟨d,h1,h2⟩:=akQ hx
  obtain⟨l,h3,h4⟩:=S7 h2
  exact⟨d::l,by simp[kJ,h1,h3],h4⟩
def Mode.own:Mode->Bool
 |.aF=>false
 |_=>true
theorem Mode.aiK (m:Mode):decide (m≠ .aF)=m.own:=by cases m<;>rfl
def SY (σ:af) (c:SC) (k:(t:Ty)->t.D->Bool->af->Option ρ):Option ρ:=
 match c with
 |.v t x=>k t x t.eD σ
 |.nil ts=>match ts with
  |[]=>none
  |t::us=>k (.list (t::us)) ([]:List (Ty.DL (t::us))) true σ
 |.sl n sz lo len=>match σ.h n with
  |some (.row _ m ts xs)=>cC ts.length sz (cC lo 0 ((ci xs len).U fun ys=>k (.list ts) ys m.own (σ.del n)))
  |_=>none
 |_=>none
theorem Z0 {ts:List Ty} {xs ys:List (Ty.DL ts)} {len:Nat} (h:ci xs len=some ys):len<=xs.length/\(List.map (Ty.aH ts) xs).take len=List.map (Ty.aH ts) ys:=by
 unfold ci at h
 split at h
 ·rename_i hl
  injection h with h
  subst h
  exact⟨hl,by simp[List.map_take]⟩
 ·cases h
theorem akJ {σ:af} {c:SC} {k:(t:Ty)->t.D->Bool->af->Option ρ} {r:ρ} (hx:SY σ c k=some r):
  ∃(t:Ty) (x:t.D) (o:Bool) (σ1:af),σ.er.fS c.er=some (t.er x,o,σ1.er)/\k t x o σ1=some r:=by
 unfold SY at hx
 split at hx
 ·rename_i t x
  exact⟨_,_,_,_,by simp only[SC.er,St.fS,Ty.wC],hx⟩
 ·split at hx
  ·cases hx
  ·rename_i t us
   exact⟨.list (t::us),[],true,σ,by simp[SC.er,St.fS,Ty.er],hx⟩
 ·rename_i n sz lo len
  split at hx
  ·rename_i gr m ts xs hn
   have bm:=(ba hx).1;replace hx:=(ba hx).2;subst bm
   have bm:=(ba hx).1;replace hx:=(ba hx).2;subst bm
   rw[eY] at hx
   obtain⟨ys,hw,hx⟩:=hx
   obtain⟨w1,w2⟩:=Z0 hw
   refine⟨.list ts,ys,m.own,σ.del n,?_,hx⟩
   have bn:σ.er.h n=some (.row gr m ts.length (List.map (Ty.aH ts) xs)):=by simp[af.er,cT,hn,SB.er]
   simp only[SC.er,St.fS,bn,List.length_map,w1,w2,and_self,if_true,Ty.er,af.GN,Mode.aiK]
  ·cases hx
 ·cases hx
def Bz (σ:af):List SC->(List TD->Bool->af->Option ρ)->Option ρ
 |[],k=>k [] true σ
 |c::cs,k=>SY σ c fun t x o σ1=>Bz σ1 cs fun l o' σ2=>k (⟨t,x⟩::l) (o&&o') σ2
theorem Jg:∀{cs:List SC} {σ:af} {k:List TD->Bool->af->Option ρ} {r:ρ},Bz σ cs k=some r->
  ∃(l:List TD) (o:Bool) (σ1:af),σ.er.gf (cs.map SC.er)=some (cj l,o,σ1.er)/\k l o σ1=some r
 |[],σ,k,r,hx=>⟨[],true,σ,rfl,hx⟩
 |c::cs,σ,k,r,hx=>by
  simp only[Bz] at hx
  obtain⟨t,x,o,σ1,h1,h2⟩:=akJ hx
  obtain⟨l,o',σ2,h3,h4⟩:=Jg h2
  exact⟨⟨t,x⟩::l,o&&o',σ2,by simp[St.gf,h1,h3,cj],h4⟩
def Jf (ts:List Ty) (σ:af):List SV->(List (Ty.DL ts)->Bool->af->Option ρ)->Option ρ
 |[],k=>k [] true σ
 |v::vs,k=>match v.cells? with
  |some (_,cs)=>Bz σ cs fun l o σ1=>match qm ts l with
   |some e=>Jf ts σ1 vs fun es o' σ2=>k (e::es) (o&&o') σ2
   |none=>none
  |none=>none
theorem Z6:∀{cs:List ah} {σ σ1:St} {l:List C} {o:Bool},σ.gf cs=some (l,o,σ1)->l.length=cs.length
 |[],σ,σ1,l,o,h=>by simp[St.gf] at h;rw[h.1];rfl
 |c::cs,σ,σ1,l,o,h=>by
  simp only[St.gf] at h
  split at h
  ·split at h
   ·rename_i e2
    injection h with h
    injection h with h h2
    subst h
    simp[Z6 e2]
   ·cases h
  ·cases h
theorem ZL {ts:List Ty}:∀{vs:List SV} {σ:af} {k:List (Ty.DL ts)->Bool->af->Option ρ} {r:ρ},Jf ts σ vs k=some r->
  ∃(es:List (Ty.DL ts)) (o:Bool) (σ1:af),σ.er.lm ts.length (vs.map SV.er)=some (List.map (Ty.aH ts) es,o,σ1.er)/\k es o σ1=some r
 |[],σ,k,r,hx=>⟨[],true,σ,rfl,hx⟩
 |v::vs,σ,k,r,hx=>by
  simp only[Jf] at hx
  split at hx
  ·rename_i b cs hc
   obtain⟨l,o,σ1,h1,h2⟩:=Jg hx
   split at h2
   ·rename_i e he
    obtain⟨es,o',σ2,h3,h4⟩:=ZL h2
    have hl:(cs.map SC.er).length=ts.length:=by
     have a:=Z6 h1
     rw[<-wh he,Ty.Cc] at a
     exact a.symm
    refine⟨e::es,o&&o',σ2,?_,h4⟩
    simp only[List.map_cons,St.lm,SV.mz hc,hl,if_true,h1,h3,wh he]
   ·cases h2
  ·cases hx
end
end Go.Am
