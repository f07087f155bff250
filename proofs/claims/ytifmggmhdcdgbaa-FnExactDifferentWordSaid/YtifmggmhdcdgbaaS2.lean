/- S2: the typed evaluator's helpers. No condition. -/
import Derived.Test.YtifmggmhdcdgbaaS1
set_option linter.unusedVariables false
namespace Go.Am
def ef {ρ:Type} (b:Bool) (x:Option ρ):Option ρ:=match b with|true=>x|false=>none
def ct {ρ:Type} (a b:Nat) (x:Option ρ):Option ρ:=match Nat.beq a b with|true=>x|false=>none
theorem bQ {ρ:Type} {b:Bool} {x:Option ρ} {r:ρ} (h:ef b x=some r):b=true/\x=some r:=by
 cases b with
 |true=>exact⟨rfl,h⟩
 |false=>cases h
theorem ba {ρ:Type} {a b:Nat} {x:Option ρ} {r:ρ} (h:ct a b x=some r):a=b/\x=some r:=by
 unfold ct at h
 split at h
 ·rename_i e;exact⟨Nat.eq_of_beq_eq_true e,h⟩
 ·cases h
abbrev TD:=(t:Ty)×t.D
inductive cl where
 |t (n:Nat)
 |k (v:SV)
def cl.er:cl->MO
 |.t n=>.t n
 |.k v=>.k v.er
def af.ev (σ:af):cl->SV
 |.t n=>σ.env n
 |.k v=>v
theorem af.cT (σ:af) (x:cl):σ.er.ev x.er=(σ.ev x).er:=by cases x<;>rfl
def SV.cells?:SV->Option (Bool×List SC)
 |.one .bg=>none
 |.one c=>some (false,[c])
 |.agg cs=>some (true,cs)
 |.bj _=>none
theorem SV.lC {v:SV} {b:Bool} {cs:List SC} (h:v.cells?=some (b,cs)):v.er.cells?=some (b,cs.map SC.er):=by
 cases v with
 |one c=>cases c<;>simp[SV.cells?] at h<;>(obtain⟨rfl,rfl⟩:=h;rfl)
 |agg cs'=>simp[SV.cells?] at h;obtain⟨rfl,rfl⟩:=h;rfl
 |bj xs=>simp[SV.cells?] at h
def y9:Bool->List SC->SV
 |true,cs=>.agg cs
 |false,[c]=>.one c
 |false,_=>.one .bg
theorem B1 (b:Bool) (cs:List SC):(y9 b cs).er=kC b (cs.map SC.er):=by
 cases b with
 |true=>rfl
 |false=>match cs with
  |[]=>rfl
  |[c]=>rfl
  |_::_::_=>rfl
section
variable {ρ:Type}
def GU (op:BinOp) (k:IntKind) (a b:Int) (c:(t:Ty)->t.D->Option ρ):Option ρ:=
 match op with
 |.add=>c (.int k) (aW k a b)
 |.sub=>c (.int k) (jR k a b)
 |.mul=>c (.int k) (cK k a b)
 |.quo=>(Ew k a b).U fun x=>c (.int k) x
 |.rem=>(fD a b).U fun x=>c (.int k) x
 |.and=>c (.int k) (GN k a b)
 |.or=>c (.int k) (orI k a b)
 |.xor=>c (.int k) (aoA k a b)
 |.eql=>c .bool (fS a b)
 |.neq=>c .bool (dd a b)
 |.lss=>c .bool (bi a b)
 |.leq=>c .bool (pR a b)
 |.gtr=>c .bool (bi b a)
 |.geq=>c .bool (pR b a)
 |_=>none
theorem acz {op:BinOp} {k:IntKind} {a b:Int} {c:(t:Ty)->t.D->Option ρ} {r:ρ} (h:GU op k a b c=some r):
    ∃(t:Ty) (x:t.D),zD op k a b=some (t.er x)/\c t x=some r:=by
  cases op<;>first
    |exact⟨.int k,_,rfl,h⟩
    |exact⟨.bool,_,rfl,h⟩
    |(simp only[GU,Ew,fD,eC] at h
      obtain⟨x,h1,h2⟩:=h
      split at h1
      · cases h1
      · rename_i hb
        injection h1 with h1
        subst h1
        exact⟨.int k,_,by simp[zD,hb,Ty.er],h2⟩)
    |(simp[GU] at h)
def Kf (op:BinOp) (k:IntKind) (a b:Int) (c:(t:Ty)->t.D->Option ρ):Option ρ:=
 match op with
 |.shl=>(aaP k a b).U fun x=>c (.int k) x
 |.shr=>(BO k a b).U fun x=>c (.int k) x
 |_=>none
theorem anx {op:BinOp} {k:IntKind} {a b:Int} {c:(t:Ty)->t.D->Option ρ} {r:ρ} (h:Kf op k a b c=some r):
    ∃(t:Ty) (x:t.D),EI op k a b=some (t.er x)/\c t x=some r:=by
  cases op<;>first
    |(simp only[Kf,aaP,BO,eC] at h
      obtain⟨x,h1,h2⟩:=h
      split at h1
      · cases h1
      · rename_i hb
        injection h1 with h1
        subst h1
        exact⟨.int k,_,by simp[EI,hb,Ty.er],h2⟩)
    |(simp[Kf] at h)
def LJ (op:BinOp) (x y:SV) (c:(t:Ty)->t.D->Option ρ):Option ρ:=
 match x,y with
 |.one (.v (.int k) a),.one (.v (.int k') b)=>match BinOp.yu op with
  |true=>Kf op k a b c
  |false=>match decide (k=k') with
   |true=>GU op k a b c
   |false=>none
 |_,_=>none
theorem acA {op:BinOp} {x y:SV} {c:(t:Ty)->t.D->Option ρ} {r:ρ} (h:LJ op x y c=some r):
  ∃(t:Ty) (z:t.D),vh op x.er y.er=some (t.er z)/\c t z=some r:=by
 unfold LJ at h
 split at h
 ·rename_i k a k' b
  split at h
  ·rename_i e
   obtain⟨t,z,h1,h2⟩:=anx h
   exact⟨t,z,by simp[SV.er,SC.er,Ty.er,vh,e];exact h1,h2⟩
  ·rename_i e
   split at h
   ·rename_i hk
    have hk:=of_decide_eq_true hk
    obtain⟨t,z,h1,h2⟩:=acz h
    exact⟨t,z,by simp[SV.er,SC.er,Ty.er,vh,e,hk];subst hk;exact h1,h2⟩
   ·cases h
 ·cases h
def LI (op:BinOp) (x y:SV) (c:(t:Ty)->t.D->Option ρ):Option ρ:=
 match x,y with
 |.one (.v .bool a),.one (.v .bool b)=>match op with
  |.eql=>c .bool (eqB a b)
  |.neq=>c .bool (Eg a b)
  |_=>none
 |_,_=>none
theorem acy {op:BinOp} {x y:SV} {c:(t:Ty)->t.D->Option ρ} {r:ρ} (h:LI op x y c=some r):
  ∃(t:Ty) (z:t.D),zC op x.er y.er=some (t.er z)/\c t z=some r:=by
 unfold LI at h
 split at h
 ·rename_i a b
  split at h
  ·exact⟨.bool,_,rfl,h⟩
  ·exact⟨.bool,_,rfl,h⟩
  ·cases h
 ·cases h
def Uw (op:UnOp) (x:SV) (c:(t:Ty)->t.D->Option ρ):Option ρ:=
 match x with
 |.one (.v .bool a)=>match op with
  |.not=>c .bool (dY a)
  |_=>none
 |.one (.v (.int k) a)=>match op with
  |.neg=>c (.int k) (alA k a)
  |_=>none
 |_=>none
theorem aof {op:UnOp} {x:SV} {c:(t:Ty)->t.D->Option ρ} {r:ρ} (h:Uw op x c=some r):
  ∃(t:Ty) (z:t.D),B3 op x.er=some (t.er z)/\c t z=some r:=by
 unfold Uw at h
 split at h
 ·rename_i a
  split at h
  ·exact⟨.bool,_,rfl,h⟩
  ·cases h
 ·rename_i k a
  split at h
  ·exact⟨.int k,_,rfl,h⟩
  ·cases h
 ·cases h
def SV.cN:SV->Option Int
 |.one (.v (.int k) n)=>some n
 |_=>none
theorem SV.yt {v:SV} {n:Int} (h:v.cN=some n):v.er.cN=some n:=by
 unfold SV.cN at h
 split at h
 ·injection h with h;subst h;rfl
 ·cases h
def EN (h:Nat->Option SB) (p:SC) (sz:Nat) (c:List SC->Option ρ):Option ρ:=
 match p with
 |.ptr n k ax off=>match h n with
  |some (.box cs)=>ct k 0 (match sub cs off sz with|some l=>c l|none=>none)
  |some (.row _ m ts xs)=>ct ax ts.length ((db xs k).U fun e=>
   match sub (match m with|.live=>Ty.live n k ts.length 0 ts e|_=>Ty.cells ts e) off sz with
   |some l=>c l
   |none=>none)
  |none=>none
 |.bT ts x off=>match sub (Ty.cells ts x) off sz with|some l=>c l|none=>none
 |_=>none
theorem TN {h:Nat->Option SB} {p:SC} {sz:Nat} {c:List SC->Option ρ} {r:ρ} (hx:EN h p sz c=some r):
  ∃l,loadAt (cD h) p.er sz=some (l.map SC.er)/\c l=some r:=by
 unfold EN at hx
 split at hx
 ·rename_i n k ax off
  split at hx
  ·rename_i cs hn
   have bk:=(ba hx).1;replace hx:=(ba hx).2;subst bk
   split at hx
   ·rename_i l e
    refine⟨l,?_,hx⟩
    simp[SC.er,loadAt,cD,hn,SB.er,s9,e]
   ·cases hx
  ·rename_i gr m ts xs hn
   have bk:=(ba hx).1;replace hx:=(ba hx).2;subst bk
   rw[eC] at hx
   obtain⟨e,he,hx⟩:=hx
   replace he:xs[k]? =some e:=he
   split at hx
   ·rename_i l hl
    refine⟨l,?_,hx⟩
    have mG:(List.map (Ty.aF ts) xs)[k]? =some (Ty.aF ts e):=by rw[List.getElem?_map,he];rfl
    simp only[SC.er,loadAt,cD,hn,Option.map_some,SB.er,if_true,mG]
    cases m with
    |live=>
     simp only at hl
     have:=congrArg (Option.map (List.map SC.er)) hl
     rw[<-s9,Ty.Zl,anZ] at this
     cases hs:sub (Ty.aF ts e) off sz with
     |none=>rw[hs] at this;cases this
     |some l'=>rw[hs] at this;simpa using this
    |aa=>
     simp only at hl
     have:=congrArg (Option.map (List.map SC.er)) hl
     rw[<-s9,Ty.lC,s9] at this
     cases hs:sub (Ty.aF ts e) off sz with
     |none=>rw[hs] at this;cases this
     |some l'=>rw[hs] at this;simpa using this
    |aE=>
     simp only at hl
     have:=congrArg (Option.map (List.map SC.er)) hl
     rw[<-s9,Ty.lC,s9] at this
     cases hs:sub (Ty.aF ts e) off sz with
     |none=>rw[hs] at this;cases this
     |some l'=>rw[hs] at this;simpa using this
   ·cases hx
  ·cases hx
 ·rename_i ts x off
  split at hx
  ·rename_i l hl
   refine⟨l,?_,hx⟩
   have:=congrArg (Option.map (List.map SC.er)) hl
   rw[<-s9,Ty.lC,s9] at this
   simpa[SC.er,loadAt] using this
  ·cases hx
 ·cases hx
theorem Me:∀{ts:List Ty} {e:Ty.DL ts} {off:Nat} {x:TD},(Ty.gv ts e)[off]? =some x->(Ty.aF ts e)[off]? =some (x.1.er x.2):=by
 intro ts e off x h
 rw[<-Ty.pg,bV,List.getElem?_map,h]
 rfl
def wU (h:Nat->Option SB) (c:SC) (k:(t:Ty)->t.D->Option ρ):Option ρ:=
 match c with
 |.v t x=>k t x
 |.nil ts=>match ts with
  |[]=>none
  |t::us=>k (.list (t::us)) ([]:List (Ty.DL (t::us)))
 |.sl n sz lo len=>match h n with
  |some (.row _ _ ts xs)=>ct ts.length sz ((bG xs lo len).U fun ys=>k (.list ts) ys)
  |_=>none
 |.br n kk ax off sz len=>match h n with
  |some (.row _ .live ts xs)=>ct ts.length ax ((db xs kk).U fun e=>match(Ty.gv ts e)[off]? with
   |some ⟨t,x⟩=>k t x
   |none=>none)
  |_=>none
 |_=>none
theorem ab4 {ts:List Ty} {xs ys:List (Ty.DL ts)} {lo len:Nat} (h:bG xs lo len=some ys):lo+len<=xs.length/\((List.map (Ty.aF ts) xs).drop lo).take len=List.map (Ty.aF ts) ys:=by
 unfold bG at h
 split at h
 ·rename_i hl
  injection h with h
  subst h
  exact⟨hl,by simp[List.map_drop,List.map_take]⟩
 ·cases h
theorem B0 {h:Nat->Option SB} {c:SC} {k:(t:Ty)->t.D->Option ρ} {r:ρ} (hx:wU h c k=some r):
  ∃(t:Ty) (x:t.D),bM (cD h) c.er=some (t.er x)/\k t x=some r:=by
 unfold wU at hx
 split at hx
 ·exact⟨_,_,rfl,hx⟩
 ·split at hx
  ·cases hx
  ·rename_i t us
   exact⟨.list (t::us),[],by simp[SC.er,bM,Ty.er],hx⟩
 ·rename_i n sz lo len
  split at hx
  ·rename_i gr m ts xs hn
   have bk:=(ba hx).1;replace hx:=(ba hx).2;subst bk
   rw[eC] at hx
   obtain⟨ys,hw,hx⟩:=hx
   obtain⟨w1,w2⟩:=ab4 hw
   refine⟨.list ts,ys,?_,hx⟩
   simp only[SC.er,bM,cD,hn,Option.map_some,SB.er,List.length_map,Ty.er,w2,w1,and_self,if_true]
  ·cases hx
 ·rename_i n kk ax off sz len
  split at hx
  ·rename_i gr ts xs hn
   have bk:=(ba hx).1;replace hx:=(ba hx).2;subst bk
   rw[eC] at hx
   obtain⟨e,he,hx⟩:=hx
   replace he:xs[kk]? =some e:=he
   split at hx
   ·rename_i t x hd
    refine⟨t,x,?_,hx⟩
    have:=Me hd
    simp only[SC.er,bM,cD,hn,Option.map_some,SB.er,if_true,List.getElem?_map,he,Option.bind_some,this]
   ·cases hx
  ·cases hx
 ·cases hx
def y8 (h:Nat->Option SB):List SC->(List TD->Option ρ)->Option ρ
 |[],k=>k []
 |c::cs,k=>wU h c fun t x=>y8 h cs fun l=>k (⟨t,x⟩::l)
theorem E4 {h:Nat->Option SB}:∀{cs:List SC} {k:List TD->Option ρ} {r:ρ},y8 h cs k=some r->
  ∃l,f7 (cD h) (cs.map SC.er)=some (bV l)/\k l=some r
 |[],k,r,hx=>⟨[],rfl,hx⟩
 |c::cs,k,r,hx=>by
  simp only[y8] at hx
  obtain⟨t,x,h1,h2⟩:=B0 hx
  obtain⟨l,h3,h4⟩:=E4 h2
  exact⟨⟨t,x⟩::l,by simp[f7,h1,h3,bV],h4⟩
abbrev bJ:=K×List TD
def bJ.er (d:bJ):Dv:=(d.1,bV d.2)
def Uj (h:Nat->Option SB) (v:SV) (k:bJ->Option ρ):Option ρ:=
 match v with
 |.one (.ptr n kk sz off)=>match h n with
  |some (.box cs)=>ct kk 0 (ct off 0 (y8 h cs fun l=>k (.ptr,l)))
  |_=>none
 |.one (.bT ts x off)=>ct off 0 (k (.ptr,Ty.gv ts x))
 |.one c=>wU h c fun t x=>k (.one,[⟨t,x⟩])
 |.agg cs=>y8 h cs fun l=>k (.agg,l)
 |.bj _=>none
theorem an1 {h:Nat->Option SB} {v:SV} {k:bJ->Option ρ} {r:ρ} (hx:Uj h v k=some r):
  ∃d:bJ,gG (cD h) v.er=some d.er/\k d=some r:=by
 unfold Uj at hx
 split at hx
 ·rename_i n kk sz off
  split at hx
  ·rename_i cs hn
   have bk:=(ba hx).1;replace hx:=(ba hx).2;subst bk
   have bk:=(ba hx).1;replace hx:=(ba hx).2;subst bk
   obtain⟨l,h1,h2⟩:=E4 hx
   exact⟨(.ptr,l),by simp[SV.er,SC.er,gG,cD,hn,SB.er];exact⟨_,h1,rfl⟩,h2⟩
  ·cases hx
 ·rename_i ts x off
  have bk:=(ba hx).1;replace hx:=(ba hx).2;subst bk
  exact⟨(.ptr,Ty.gv ts x),by simp[SV.er,SC.er,gG,bJ.er,Ty.pg],hx⟩
 ·rename_i c hp hd
  obtain⟨t,x,h1,h2⟩:=B0 hx
  refine⟨(.one,[⟨t,x⟩]),?_,h2⟩
  cases c with
  |ptr n kk sz off=>exact absurd rfl (hp n kk sz off)
  |bT ts x off=>exact absurd rfl (hd ts x off)
  |v t' x'=>simp only[SV.er,SC.er,gG] at h1⊢;rw[h1];rfl
  |nil ts=>simp only[SV.er,SC.er,gG] at h1⊢;rw[h1];rfl
  |sl n sz lo len=>simp only[SV.er,SC.er,gG] at h1⊢;rw[h1];rfl
  |br n a b c' d e=>simp only[SV.er,SC.er,gG] at h1⊢;rw[h1];rfl
  |cr n a b c' d e=>simp only[SV.er,SC.er,gG] at h1⊢;rw[h1];rfl
  |fn f bR=>simp only[SV.er,SC.er,gG] at h1⊢;rw[h1];rfl
  |bg=>simp only[SV.er,SC.er,gG] at h1⊢;rw[h1];rfl
 ·obtain⟨l,h1,h2⟩:=E4 hx
  exact⟨(.agg,l),by simp[SV.er,gG,h1,bJ.er],h2⟩
 ·cases hx
def E3 (h:Nat->Option SB):List SV->(List bJ->Option ρ)->Option ρ
 |[],k=>k []
 |v::vs,k=>Uj h v fun d=>E3 h vs fun l=>k (d::l)
theorem Uk {h:Nat->Option SB}:∀{vs:List SV} {k:List bJ->Option ρ} {r:ρ},E3 h vs k=some r->
  ∃l,jV (cD h) (vs.map SV.er)=some (l.map bJ.er)/\k l=some r
 |[],k,r,hx=>⟨[],rfl,hx⟩
 |v::vs,k,r,hx=>by
  simp only[E3] at hx
  obtain⟨d,h1,h2⟩:=an1 hx
  obtain⟨l,h3,h4⟩:=Uk h2
  exact⟨d::l,by simp[jV,h1,h3],h4⟩
def Mode.own:Mode->Bool
 |.aE=>false
 |_=>true
theorem Mode.alU (m:Mode):decide (m≠ .aE)=m.own:=by cases m<;>rfl
def Ub (σ:af) (c:SC) (k:(t:Ty)->t.D->Bool->af->Option ρ):Option ρ:=
 match c with
 |.v t x=>k t x t.dR σ
 |.nil ts=>match ts with
  |[]=>none
  |t::us=>k (.list (t::us)) ([]:List (Ty.DL (t::us))) true σ
 |.sl n sz lo len=>match σ.h n with
  |some (.row _ m ts xs)=>ct ts.length sz (ct lo 0 ((cP xs len).U fun ys=>k (.list ts) ys m.own (σ.del n)))
  |_=>none
 |_=>none
theorem abL {ts:List Ty} {xs ys:List (Ty.DL ts)} {len:Nat} (h:cP xs len=some ys):len<=xs.length/\(List.map (Ty.aF ts) xs).take len=List.map (Ty.aF ts) ys:=by
 unfold cP at h
 split at h
 ·rename_i hl
  injection h with h
  subst h
  exact⟨hl,by simp[List.map_take]⟩
 ·cases h
theorem anT {σ:af} {c:SC} {k:(t:Ty)->t.D->Bool->af->Option ρ} {r:ρ} (hx:Ub σ c k=some r):
  ∃(t:Ty) (x:t.D) (o:Bool) (σ1:af),σ.er.fu c.er=some (t.er x,o,σ1.er)/\k t x o σ1=some r:=by
 unfold Ub at hx
 split at hx
 ·rename_i t x
  exact⟨_,_,_,_,by simp only[SC.er,St.fu,Ty.wM],hx⟩
 ·split at hx
  ·cases hx
  ·rename_i t us
   exact⟨.list (t::us),[],true,σ,by simp[SC.er,St.fu,Ty.er],hx⟩
 ·rename_i n sz lo len
  split at hx
  ·rename_i gr m ts xs hn
   have bk:=(ba hx).1;replace hx:=(ba hx).2;subst bk
   have bk:=(ba hx).1;replace hx:=(ba hx).2;subst bk
   rw[eC] at hx
   obtain⟨ys,hw,hx⟩:=hx
   obtain⟨w1,w2⟩:=abL hw
   refine⟨.list ts,ys,m.own,σ.del n,?_,hx⟩
   have bh:σ.er.h n=some (.row gr m ts.length (List.map (Ty.aF ts) xs)):=by simp[af.er,cD,hn,SB.er]
   simp only[SC.er,St.fu,bh,List.length_map,w1,w2,and_self,if_true,Ty.er,af.Hw,Mode.alU]
  ·cases hx
 ·cases hx
def yZ (σ:af):List SC->(List TD->Bool->af->Option ρ)->Option ρ
 |[],k=>k [] true σ
 |c::cs,k=>Ub σ c fun t x o σ1=>yZ σ1 cs fun l o' σ2=>k (⟨t,x⟩::l) (o&&o') σ2
theorem EY:∀{cs:List SC} {σ:af} {k:List TD->Bool->af->Option ρ} {r:ρ},yZ σ cs k=some r->
  ∃(l:List TD) (o:Bool) (σ1:af),σ.er.eY (cs.map SC.er)=some (bV l,o,σ1.er)/\k l o σ1=some r
 |[],σ,k,r,hx=>⟨[],true,σ,rfl,hx⟩
 |c::cs,σ,k,r,hx=>by
  simp only[yZ] at hx
  obtain⟨t,x,o,σ1,h1,h2⟩:=anT hx
  obtain⟨l,o',σ2,h3,h4⟩:=EY h2
  exact⟨⟨t,x⟩::l,o&&o',σ2,by simp[St.eY,h1,h3,bV],h4⟩
def Ku (ts:List Ty) (σ:af):List SV->(List (Ty.DL ts)->Bool->af->Option ρ)->Option ρ
 |[],k=>k [] true σ
 |v::vs,k=>match v.cells? with
  |some (_,cs)=>yZ σ cs fun l o σ1=>match pS ts l with
   |some e=>Ku ts σ1 vs fun es o' σ2=>k (e::es) (o&&o') σ2
   |none=>none
  |none=>none
theorem abQ:∀{cs:List ah} {σ σ1:St} {l:List C} {o:Bool},σ.eY cs=some (l,o,σ1)->l.length=cs.length
 |[],σ,σ1,l,o,h=>by simp[St.eY] at h;rw[h.1];rfl
 |c::cs,σ,σ1,l,o,h=>by
  simp only[St.eY] at h
  split at h
  ·split at h
   ·rename_i e2
    injection h with h
    injection h with h h2
    subst h
    simp[abQ e2]
   ·cases h
  ·cases h
theorem abl {ts:List Ty}:∀{vs:List SV} {σ:af} {k:List (Ty.DL ts)->Bool->af->Option ρ} {r:ρ},Ku ts σ vs k=some r->
  ∃(es:List (Ty.DL ts)) (o:Bool) (σ1:af),σ.er.kB ts.length (vs.map SV.er)=some (List.map (Ty.aF ts) es,o,σ1.er)/\k es o σ1=some r
 |[],σ,k,r,hx=>⟨[],true,σ,rfl,hx⟩
 |v::vs,σ,k,r,hx=>by
  simp only[Ku] at hx
  split at hx
  ·rename_i b cs hc
   obtain⟨l,o,σ1,h1,h2⟩:=EY hx
   split at h2
   ·rename_i e he
    obtain⟨es,o',σ2,h3,h4⟩:=abl h2
    have hl:(cs.map SC.er).length=ts.length:=by
     have a:=abQ h1
     rw[<-ww he,Ty.CK] at a
     exact a.symm
    refine⟨e::es,o&&o',σ2,?_,h4⟩
    simp only[List.map_cons,St.kB,SV.lC hc,hl,if_true,h1,h3,ww he]
   ·cases h2
  ·cases hx
end
end Go.Am
