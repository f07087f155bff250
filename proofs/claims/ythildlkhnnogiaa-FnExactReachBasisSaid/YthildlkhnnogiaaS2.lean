/- S2: the typed evaluator's helpers. No condition. -/
import Derived.Test.YthildlkhnnogiaaS1
set_option linter.unusedVariables false
namespace Go.Am
def da {ρ:Type} (b:Bool) (x:Option ρ):Option ρ:=match b with|true=>x|false=>none
def bH {ρ:Type} (a b:Nat) (x:Option ρ):Option ρ:=match Nat.beq a b with|true=>x|false=>none
theorem bw {ρ:Type} {b:Bool} {x:Option ρ} {r:ρ} (h:da b x=some r):b=true/\x=some r:=by
 cases b with
 |true=>exact⟨rfl,h⟩
 |false=>cases h
theorem aH {ρ:Type} {a b:Nat} {x:Option ρ} {r:ρ} (h:bH a b x=some r):a=b/\x=some r:=by
 unfold bH at h
 split at h
 ·rename_i e;exact⟨Nat.eq_of_beq_eq_true e,h⟩
 ·cases h
abbrev TD:=(t:Ty)×t.D
inductive bV where
 |t (n:Nat)
 |k (v:SV)
def bV.er:bV->MO
 |.t n=>.t n
 |.k v=>.k v.er
def aa.ev (σ:aa):bV->SV
 |.t n=>σ.env n
 |.k v=>v
theorem aa.cG (σ:aa) (x:bV):σ.er.ev x.er=(σ.ev x).er:=by cases x<;>rfl
def SV.cells?:SV->Option (Bool×List SC)
 |.one .aX=>none
 |.one c=>some (false,[c])
 |.agg cs=>some (true,cs)
 |.bk _=>none
theorem SV.jo {v:SV} {b:Bool} {cs:List SC} (h:v.cells?=some (b,cs)):v.er.cells?=some (b,cs.map SC.er):=by
 cases v with
 |one c=>cases c<;>simp[SV.cells?] at h<;>(obtain⟨rfl,rfl⟩:=h;rfl)
 |agg cs'=>simp[SV.cells?] at h;obtain⟨rfl,rfl⟩:=h;rfl
 |bk xs=>simp[SV.cells?] at h
def Ao:Bool->List SC->SV
 |true,cs=>.agg cs
 |false,[c]=>.one c
 |false,_=>.one .aX
theorem Db (b:Bool) (cs:List SC):(Ao b cs).er=kM b (cs.map SC.er):=by
 cases b with
 |true=>rfl
 |false=>match cs with
  |[]=>rfl
  |[c]=>rfl
  |_::_::_=>rfl
section
variable {ρ:Type}
def H4 (op:BinOp) (k:IntKind) (a b:Int) (c:(t:Ty)->t.D->Option ρ):Option ρ:=
 match op with
 |.add=>c (.int k) (bB k a b)
 |.sub=>c (.int k) (lO k a b)
 |.mul=>c (.int k) (dF k a b)
 |.quo=>(FC k a b).U fun x=>c (.int k) x
 |.rem=>(hH a b).U fun x=>c (.int k) x
 |.and=>c (.int k) (HW k a b)
 |.or=>c (.int k) (orI k a b)
 |.xor=>c (.int k) (am1 k a b)
 |.eql=>c .bool (k8 a b)
 |.neq=>c .bool (dU a b)
 |.lss=>c .bool (bD a b)
 |.leq=>c .bool (qZ a b)
 |.gtr=>c .bool (bD b a)
 |.geq=>c .bool (qZ b a)
 |_=>none
theorem ack {op:BinOp} {k:IntKind} {a b:Int} {c:(t:Ty)->t.D->Option ρ} {r:ρ} (h:H4 op k a b c=some r):
    ∃(t:Ty) (x:t.D),Bb op k a b=some (t.er x)/\c t x=some r:=by
  cases op<;>first
    |exact⟨.int k,_,rfl,h⟩
    |exact⟨.bool,_,rfl,h⟩
    |(simp only[H4,FC,hH,cU] at h
      obtain⟨x,h1,h2⟩:=h
      split at h1
      · cases h1
      · rename_i hb
        injection h1 with h1
        subst h1
        exact⟨.int k,_,by simp[Bb,hb,Ty.er],h2⟩)
    |(simp[H4] at h)
def Kr (op:BinOp) (k:IntKind) (a b:Int) (c:(t:Ty)->t.D->Option ρ):Option ρ:=
 match op with
 |.shl=>(aaE k a b).U fun x=>c (.int k) x
 |.shr=>(CY k a b).U fun x=>c (.int k) x
 |_=>none
theorem alR {op:BinOp} {k:IntKind} {a b:Int} {c:(t:Ty)->t.D->Option ρ} {r:ρ} (h:Kr op k a b c=some r):
    ∃(t:Ty) (x:t.D),FU op k a b=some (t.er x)/\c t x=some r:=by
  cases op<;>first
    |(simp only[Kr,aaE,CY,cU] at h
      obtain⟨x,h1,h2⟩:=h
      split at h1
      · cases h1
      · rename_i hb
        injection h1 with h1
        subst h1
        exact⟨.int k,_,by simp[FU,hb,Ty.er],h2⟩)
    |(simp[Kr] at h)
def Mb (op:BinOp) (x y:SV) (c:(t:Ty)->t.D->Option ρ):Option ρ:=
 match x,y with
 |.one (.v (.int k) a),.one (.v (.int k') b)=>match BinOp.zQ op with
  |true=>Kr op k a b c
  |false=>match decide (k=k') with
   |true=>H4 op k a b c
   |false=>none
 |_,_=>none
theorem acm {op:BinOp} {x y:SV} {c:(t:Ty)->t.D->Option ρ} {r:ρ} (h:Mb op x y c=some r):
  ∃(t:Ty) (z:t.D),wL op x.er y.er=some (t.er z)/\c t z=some r:=by
 unfold Mb at h
 split at h
 ·rename_i k a k' b
  split at h
  ·rename_i e
   obtain⟨t,z,h1,h2⟩:=alR h
   exact⟨t,z,by simp[SV.er,SC.er,Ty.er,wL,e];exact h1,h2⟩
  ·rename_i e
   split at h
   ·rename_i hk
    have hk:=of_decide_eq_true hk
    obtain⟨t,z,h1,h2⟩:=ack h
    exact⟨t,z,by simp[SV.er,SC.er,Ty.er,wL,e,hk];subst hk;exact h1,h2⟩
   ·cases h
 ·cases h
def Ma (op:BinOp) (x y:SV) (c:(t:Ty)->t.D->Option ρ):Option ρ:=
 match x,y with
 |.one (.v .bool a),.one (.v .bool b)=>match op with
  |.eql=>c .bool (eqB a b)
  |.neq=>c .bool (Zs a b)
  |_=>none
 |_,_=>none
theorem acj {op:BinOp} {x y:SV} {c:(t:Ty)->t.D->Option ρ} {r:ρ} (h:Ma op x y c=some r):
  ∃(t:Ty) (z:t.D),Ba op x.er y.er=some (t.er z)/\c t z=some r:=by
 unfold Ma at h
 split at h
 ·rename_i a b
  split at h
  ·exact⟨.bool,_,rfl,h⟩
  ·exact⟨.bool,_,rfl,h⟩
  ·cases h
 ·cases h
def UG (op:UnOp) (x:SV) (c:(t:Ty)->t.D->Option ρ):Option ρ:=
 match x with
 |.one (.v .bool a)=>match op with
  |.not=>c .bool (eK a)
  |_=>none
 |.one (.v (.int k) a)=>match op with
  |.neg=>c (.int k) (ajM k a)
  |_=>none
 |_=>none
theorem amD {op:UnOp} {x:SV} {c:(t:Ty)->t.D->Option ρ} {r:ρ} (h:UG op x c=some r):
  ∃(t:Ty) (z:t.D),Dd op x.er=some (t.er z)/\c t z=some r:=by
 unfold UG at h
 split at h
 ·rename_i a
  split at h
  ·exact⟨.bool,_,rfl,h⟩
  ·cases h
 ·rename_i k a
  split at h
  ·exact⟨.int k,_,rfl,h⟩
  ·cases h
 ·cases h
def SV.cJ:SV->Option Int
 |.one (.v (.int k) n)=>some n
 |_=>none
theorem SV.xy {v:SV} {n:Int} (h:v.cJ=some n):v.er.cJ=some n:=by
 unfold SV.cJ at h
 split at h
 ·injection h with h;subst h;rfl
 ·cases h
def F0 (h:Nat->Option SB) (p:SC) (sz:Nat) (c:List SC->Option ρ):Option ρ:=
 match p with
 |.ptr n k au off=>match h n with
  |some (.box cs)=>bH k 0 (match sub cs off sz with|some l=>c l|none=>none)
  |some (.row _ m ts xs)=>bH au ts.length ((dj xs k).U fun e=>
   match sub (match m with|.live=>Ty.live n k ts.length 0 ts e|_=>Ty.cells ts e) off sz with
   |some l=>c l
   |none=>none)
  |none=>none
 |.cd ts x off=>match sub (Ty.cells ts x) off sz with|some l=>c l|none=>none
 |.bK ts x off j n s len=>match Nat.beq off j&&Nat.beq sz 1 with
  |true=>c [.sl n s 0 len]
  |false=>da (Nat.ble (off+sz) j) (match sub (Ty.cells ts x) off sz with|some l=>c l|none=>none)
 |.bX n kk au off s i=>match h n with
  |some (.row _ .live ts xs)=>bH ts.length au ((dj xs kk).U fun e=>match(Ty.fG ts e)[off]? with
   |some ⟨.list us,ys⟩=>bH us.length s (bH sz s (da (Ty.eo us) ((dj (α:=Ty.DL us) ys i).U fun y=>c (Ty.cells us y))))
   |_=>none)
  |_=>none
 |_=>none
theorem Xg {ts:List Ty} {ys:List (Ty.DL ts)} {i:Nat} {y:Ty.DL ts} (h:dj ys i=some y):(List.map (Ty.aw ts) ys)[i]? =some (Ty.aw ts y):=by
 have h0:ys[i]? =some y:=h
 rw[List.getElem?_map,h0];rfl
theorem ajY {us:List Ty} {L:List (List C)} {i:Nat} {y:Ty.DL us} (h:L[i]? =some (Ty.aw us y)) (hs:Ty.eo us=true):
  (match L[i]? with|some e=>if Am.eo e=true then some (e.map .c) else none|none=>none)=some ((Ty.cells us y).map SC.er):=by
 rw[h]
 simp only[Ty.FM,hs,if_true,Ty.jo]
theorem acX:∀{ts:List Ty} {e:Ty.DL ts} {off:Nat} {x:TD},(Ty.fG ts e)[off]? =some x->(Ty.aw ts e)[off]? =some (x.1.er x.2):=by
 intro ts e off x h
 rw[<-Ty.n5,cg,List.getElem?_map,h]
 rfl
theorem TW {h:Nat->Option SB} {p:SC} {sz:Nat} {c:List SC->Option ρ} {r:ρ} (hx:F0 h p sz c=some r):
  ∃l,loadAt (cf h) p.er sz=some (l.map SC.er)/\c l=some r:=by
 unfold F0 at hx
 split at hx
 ·rename_i n k au off
  split at hx
  ·rename_i cs hn
   have aQ:=(aH hx).1;replace hx:=(aH hx).2;subst aQ
   split at hx
   ·rename_i l e
    refine⟨l,?_,hx⟩
    simp[SC.er,loadAt,cf,hn,SB.er,rp,e]
   ·cases hx
  ·rename_i gr m ts xs hn
   have aQ:=(aH hx).1;replace hx:=(aH hx).2;subst aQ
   rw[cU] at hx
   obtain⟨e,he,hx⟩:=hx
   replace he:xs[k]? =some e:=he
   split at hx
   ·rename_i l hl
    refine⟨l,?_,hx⟩
    have gK:(List.map (Ty.aw ts) xs)[k]? =some (Ty.aw ts e):=by rw[List.getElem?_map,he];rfl
    simp only[SC.er,loadAt,cf,hn,Option.map_some,SB.er,if_true,gK]
    cases m with
    |live=>
     simp only at hl
     have:=congrArg (Option.map (List.map SC.er)) hl
     rw[<-rp,Ty.YZ,amj] at this
     cases hs:sub (Ty.aw ts e) off sz with
     |none=>rw[hs] at this;cases this
     |some l'=>rw[hs] at this;simpa using this
    |af=>
     simp only at hl
     have:=congrArg (Option.map (List.map SC.er)) hl
     rw[<-rp,Ty.jo,rp] at this
     cases hs:sub (Ty.aw ts e) off sz with
     |none=>rw[hs] at this;cases this
     |some l'=>rw[hs] at this;simpa using this
    |aG=>
     simp only at hl
     have:=congrArg (Option.map (List.map SC.er)) hl
     rw[<-rp,Ty.jo,rp] at this
     cases hs:sub (Ty.aw ts e) off sz with
     |none=>rw[hs] at this;cases this
     |some l'=>rw[hs] at this;simpa using this
   ·cases hx
  ·cases hx
 ·rename_i ts x off
  split at hx
  ·rename_i l hl
   refine⟨l,?_,hx⟩
   have:=congrArg (Option.map (List.map SC.er)) hl
   rw[<-rp,Ty.jo,rp] at this
   simpa[SC.er,loadAt] using this
  ·cases hx
 ·rename_i ts x off j n s len
  split at hx
  ·rename_i hc
   simp only[Bool.and_eq_true] at hc
   have h1:=Nat.eq_of_beq_eq_true hc.1
   have h2:=Nat.eq_of_beq_eq_true hc.2
   subst h1 h2
   exact⟨_,by simp[SC.er,loadAt],hx⟩
  ·rename_i hc
   have av:¬(off=j/\sz=1):=by
    rintro⟨rfl,rfl⟩
    simp at hc
   have hb:=(bw hx).1;replace hx:=(bw hx).2
   have fb:=Nat.le_of_ble_eq_true hb
   split at hx
   ·rename_i l hl
    refine⟨l,?_,hx⟩
    have:=congrArg (Option.map (List.map SC.er)) hl
    rw[<-rp,Ty.jo,rp] at this
    simp only[SC.er,loadAt]
    rw[if_neg av,if_pos fb]
    cases hs:sub (Ty.aw ts x) off sz with
    |none=>rw[hs] at this;cases this
    |some l'=>rw[hs] at this;simpa using this
   ·cases hx
 ·rename_i n kk au off s i
  split at hx
  ·rename_i gr ts xs hn
   have aQ:=(aH hx).1;replace hx:=(aH hx).2;subst aQ
   rw[cU] at hx
   obtain⟨e,he,hx⟩:=hx
   replace he:xs[kk]? =some e:=he
   split at hx
   ·rename_i us ys hd
    have aQ:=(aH hx).1;replace hx:=(aH hx).2;subst aQ
    have aQ:=(aH hx).1;replace hx:=(aH hx).2;subst aQ
    have hs:=(bw hx).1;replace hx:=(bw hx).2
    rw[cU] at hx
    obtain⟨y,hy,hx⟩:=hx
    have hy2:(List.map (Ty.aw us) ys)[i]? =some (Ty.aw us y):=Xg (ts:=us) (ys:=ys) hy
    refine⟨Ty.cells us y,?_,hx⟩
    have gK:=acX hd
    simp only[SC.er,loadAt,cf,hn,Option.map_some,SB.er,if_true,List.getElem?_map,he,Option.bind_some,gK,Ty.er,and_self]
    exact ajY hy2 hs
   ·cases hx
  ·cases hx
 ·cases hx
theorem Is:∀{ts:List Ty} {e:Ty.DL ts} {off:Nat} {x:TD},(Ty.fG ts e)[off]? =some x->(Ty.aw ts e)[off]? =some (x.1.er x.2):=by
 intro ts e off x h
 rw[<-Ty.n5,cg,List.getElem?_map,h]
 rfl
def wk (h:Nat->Option SB) (c:SC) (k:(t:Ty)->t.D->Option ρ):Option ρ:=
 match c with
 |.v t x=>k t x
 |.nil ts=>match ts with
  |[]=>none
  |t::us=>k (.list (t::us)) ([]:List (Ty.DL (t::us)))
 |.sl n sz lo len=>match h n with
  |some (.row _ _ ts xs)=>bH ts.length sz ((cO xs lo len).U fun ys=>k (.list ts) ys)
  |_=>none
 |.bf n kk au off sz len=>match h n with
  |some (.row _ .live ts xs)=>bH ts.length au ((dj xs kk).U fun e=>match(Ty.fG ts e)[off]? with
   |some ⟨t,x⟩=>k t x
   |none=>none)
  |_=>none
 |_=>none
theorem abT {ts:List Ty} {xs ys:List (Ty.DL ts)} {lo len:Nat} (h:cO xs lo len=some ys):lo+len<=xs.length/\((List.map (Ty.aw ts) xs).drop lo).take len=List.map (Ty.aw ts) ys:=by
 unfold cO at h
 split at h
 ·rename_i hl
  injection h with h
  subst h
  exact⟨hl,by simp[List.map_drop,List.map_take]⟩
 ·cases h
theorem Al {h:Nat->Option SB} {c:SC} {k:(t:Ty)->t.D->Option ρ} {r:ρ} (hx:wk h c k=some r):
  ∃(t:Ty) (x:t.D),bQ (cf h) c.er=some (t.er x)/\k t x=some r:=by
 unfold wk at hx
 split at hx
 ·exact⟨_,_,rfl,hx⟩
 ·split at hx
  ·cases hx
  ·rename_i t us
   exact⟨.list (t::us),[],by simp[SC.er,bQ,Ty.er],hx⟩
 ·rename_i n sz lo len
  split at hx
  ·rename_i gr m ts xs hn
   have aQ:=(aH hx).1;replace hx:=(aH hx).2;subst aQ
   rw[cU] at hx
   obtain⟨ys,hw,hx⟩:=hx
   obtain⟨w1,w2⟩:=abT hw
   refine⟨.list ts,ys,?_,hx⟩
   simp only[SC.er,bQ,cf,hn,Option.map_some,SB.er,List.length_map,Ty.er,w2,w1,and_self,if_true]
  ·cases hx
 ·rename_i n kk au off sz len
  split at hx
  ·rename_i gr ts xs hn
   have aQ:=(aH hx).1;replace hx:=(aH hx).2;subst aQ
   rw[cU] at hx
   obtain⟨e,he,hx⟩:=hx
   replace he:xs[kk]? =some e:=he
   split at hx
   ·rename_i t x hd
    refine⟨t,x,?_,hx⟩
    have:=Is hd
    simp only[SC.er,bQ,cf,hn,Option.map_some,SB.er,if_true,List.getElem?_map,he,Option.bind_some,this]
   ·cases hx
  ·cases hx
 ·cases hx
def An (h:Nat->Option SB):List SC->(List TD->Option ρ)->Option ρ
 |[],k=>k []
 |c::cs,k=>wk h c fun t x=>An h cs fun l=>k (⟨t,x⟩::l)
theorem Ge {h:Nat->Option SB}:∀{cs:List SC} {k:List TD->Option ρ} {r:ρ},An h cs k=some r->
  ∃l,gE (cf h) (cs.map SC.er)=some (cg l)/\k l=some r
 |[],k,r,hx=>⟨[],rfl,hx⟩
 |c::cs,k,r,hx=>by
  simp only[An] at hx
  obtain⟨t,x,h1,h2⟩:=Al hx
  obtain⟨l,h3,h4⟩:=Ge h2
  exact⟨⟨t,x⟩::l,by simp[gE,h1,h3,cg],h4⟩
abbrev bz:=K×List TD
def bz.er (d:bz):Dv:=(d.1,cg d.2)
def Uq (h:Nat->Option SB) (v:SV) (k:bz->Option ρ):Option ρ:=
 match v with
 |.one (.ptr n kk sz off)=>match h n with
  |some (.box cs)=>bH kk 0 (bH off 0 (An h cs fun l=>k (.ptr,l)))
  |_=>none
 |.one (.cd ts x off)=>bH off 0 (k (.ptr,Ty.fG ts x))
 |.one c=>wk h c fun t x=>k (.one,[⟨t,x⟩])
 |.agg cs=>An h cs fun l=>k (.agg,l)
 |.bk _=>none
theorem amk {h:Nat->Option SB} {v:SV} {k:bz->Option ρ} {r:ρ} (hx:Uq h v k=some r):
  ∃d:bz,gR (cf h) v.er=some d.er/\k d=some r:=by
 unfold Uq at hx
 split at hx
 ·rename_i n kk sz off
  split at hx
  ·rename_i cs hn
   have aQ:=(aH hx).1;replace hx:=(aH hx).2;subst aQ
   have aQ:=(aH hx).1;replace hx:=(aH hx).2;subst aQ
   obtain⟨l,h1,h2⟩:=Ge hx
   exact⟨(.ptr,l),by simp[SV.er,SC.er,gR,cf,hn,SB.er];exact⟨_,h1,rfl⟩,h2⟩
  ·cases hx
 ·rename_i ts x off
  have aQ:=(aH hx).1;replace hx:=(aH hx).2;subst aQ
  exact⟨(.ptr,Ty.fG ts x),by simp[SV.er,SC.er,gR,bz.er,Ty.n5],hx⟩
 ·rename_i c hp hd
  obtain⟨t,x,h1,h2⟩:=Al hx
  refine⟨(.one,[⟨t,x⟩]),?_,h2⟩
  cases c with
  |ptr n kk sz off=>exact absurd rfl (hp n kk sz off)
  |cd ts x off=>exact absurd rfl (hd ts x off)
  |v t' x'=>simp only[SV.er,SC.er,gR] at h1⊢;rw[h1];rfl
  |nil ts=>simp only[SV.er,SC.er,gR] at h1⊢;rw[h1];rfl
  |sl n sz lo len=>simp only[SV.er,SC.er,gR] at h1⊢;rw[h1];rfl
  |bf n a b c' d e=>simp only[SV.er,SC.er,gR] at h1⊢;rw[h1];rfl
  |bX n a b c' d e=>simp only[SV.er,SC.er,gR] at h1⊢;rw[h1];rfl
  |bK ts x a b n c' d=>simp only[SV.er,SC.er,gR] at h1⊢;rw[h1];rfl
  |fn f bI=>simp only[SV.er,SC.er,gR] at h1⊢;rw[h1];rfl
  |aX=>simp only[SV.er,SC.er,gR] at h1⊢;rw[h1];rfl
 ·obtain⟨l,h1,h2⟩:=Ge hx
  exact⟨(.agg,l),by simp[SV.er,gR,h1,bz.er],h2⟩
 ·cases hx
def Da (h:Nat->Option SB):List SV->(List bz->Option ρ)->Option ρ
 |[],k=>k []
 |v::vs,k=>Uq h v fun d=>Da h vs fun l=>k (d::l)
theorem KP {h:Nat->Option SB}:∀{vs:List SV} {k:List bz->Option ρ} {r:ρ},Da h vs k=some r->
  ∃l,ji (cf h) (vs.map SV.er)=some (l.map bz.er)/\k l=some r
 |[],k,r,hx=>⟨[],rfl,hx⟩
 |v::vs,k,r,hx=>by
  simp only[Da] at hx
  obtain⟨d,h1,h2⟩:=amk hx
  obtain⟨l,h3,h4⟩:=KP h2
  exact⟨d::l,by simp[ji,h1,h3],h4⟩
def Mode.own:Mode->Bool
 |.aG=>false
 |_=>true
theorem Mode.aj5 (m:Mode):decide (m≠ .aG)=m.own:=by cases m<;>rfl
def KL (σ:aa) (c:SC) (k:(t:Ty)->t.D->Bool->aa->Option ρ):Option ρ:=
 match c with
 |.v t x=>k t x t.dL σ
 |.nil ts=>match ts with
  |[]=>none
  |t::us=>k (.list (t::us)) ([]:List (Ty.DL (t::us))) true σ
 |.sl n sz lo len=>match σ.h n with
  |some (.row _ m ts xs)=>bH ts.length sz (bH lo 0 ((dH xs len).U fun ys=>k (.list ts) ys m.own (σ.del n)))
  |_=>none
 |_=>none
theorem aby {ts:List Ty} {xs ys:List (Ty.DL ts)} {len:Nat} (h:dH xs len=some ys):len<=xs.length/\(List.map (Ty.aw ts) xs).take len=List.map (Ty.aw ts) ys:=by
 unfold dH at h
 split at h
 ·rename_i hl
  injection h with h
  subst h
  exact⟨hl,by simp[List.map_take]⟩
 ·cases h
theorem abd {σ:aa} {c:SC} {k:(t:Ty)->t.D->Bool->aa->Option ρ} {r:ρ} (hx:KL σ c k=some r):
  ∃(t:Ty) (x:t.D) (o:Bool) (σ1:aa),σ.er.eM c.er=some (t.er x,o,σ1.er)/\k t x o σ1=some r:=by
 unfold KL at hx
 split at hx
 ·rename_i t x
  exact⟨_,_,_,_,by simp only[SC.er,St.eM,Ty.v9],hx⟩
 ·split at hx
  ·cases hx
  ·rename_i t us
   exact⟨.list (t::us),[],true,σ,by simp[SC.er,St.eM,Ty.er],hx⟩
 ·rename_i n sz lo len
  split at hx
  ·rename_i gr m ts xs hn
   have aQ:=(aH hx).1;replace hx:=(aH hx).2;subst aQ
   have aQ:=(aH hx).1;replace hx:=(aH hx).2;subst aQ
   rw[cU] at hx
   obtain⟨ys,hw,hx⟩:=hx
   obtain⟨w1,w2⟩:=aby hw
   refine⟨.list ts,ys,m.own,σ.del n,?_,hx⟩
   have bh:σ.er.h n=some (.row gr m ts.length (List.map (Ty.aw ts) xs)):=by simp[aa.er,cf,hn,SB.er]
   simp only[SC.er,St.eM,bh,List.length_map,w1,w2,and_self,if_true,Ty.er,aa.y4,Mode.aj5]
  ·cases hx
 ·cases hx
def Aj (σ:aa):List SC->(List TD->Bool->aa->Option ρ)->Option ρ
 |[],k=>k [] true σ
 |c::cs,k=>KL σ c fun t x o σ1=>Aj σ1 cs fun l o' σ2=>k (⟨t,x⟩::l) (o&&o') σ2
theorem Gc:∀{cs:List SC} {σ:aa} {k:List TD->Bool->aa->Option ρ} {r:ρ},Aj σ cs k=some r->
  ∃(l:List TD) (o:Bool) (σ1:aa),σ.er.fi (cs.map SC.er)=some (cg l,o,σ1.er)/\k l o σ1=some r
 |[],σ,k,r,hx=>⟨[],true,σ,rfl,hx⟩
 |c::cs,σ,k,r,hx=>by
  simp only[Aj] at hx
  obtain⟨t,x,o,σ1,h1,h2⟩:=abd hx
  obtain⟨l,o',σ2,h3,h4⟩:=Gc h2
  exact⟨⟨t,x⟩::l,o&&o',σ2,by simp[St.fi,h1,h3,cg],h4⟩
def KM (ts:List Ty) (σ:aa):List SV->(List (Ty.DL ts)->Bool->aa->Option ρ)->Option ρ
 |[],k=>k [] true σ
 |v::vs,k=>match v.cells? with
  |some (_,cs)=>Aj σ cs fun l o σ1=>match pP ts l with
   |some e=>KM ts σ1 vs fun es o' σ2=>k (e::es) (o&&o') σ2
   |none=>none
  |none=>none
theorem abD:∀{cs:List ab} {σ σ1:St} {l:List C} {o:Bool},σ.fi cs=some (l,o,σ1)->l.length=cs.length
 |[],σ,σ1,l,o,h=>by simp[St.fi] at h;rw[h.1];rfl
 |c::cs,σ,σ1,l,o,h=>by
  simp only[St.fi] at h
  split at h
  ·split at h
   ·rename_i e2
    injection h with h
    injection h with h h2
    subst h
    simp[abD e2]
   ·cases h
  ·cases h
theorem abe {ts:List Ty}:∀{vs:List SV} {σ:aa} {k:List (Ty.DL ts)->Bool->aa->Option ρ} {r:ρ},KM ts σ vs k=some r->
  ∃(es:List (Ty.DL ts)) (o:Bool) (σ1:aa),σ.er.kL ts.length (vs.map SV.er)=some (List.map (Ty.aw ts) es,o,σ1.er)/\k es o σ1=some r
 |[],σ,k,r,hx=>⟨[],true,σ,rfl,hx⟩
 |v::vs,σ,k,r,hx=>by
  simp only[KM] at hx
  split at hx
  ·rename_i b cs hc
   obtain⟨l,o,σ1,h1,h2⟩:=Gc hx
   split at h2
   ·rename_i e he
    obtain⟨es,o',σ2,h3,h4⟩:=abe h2
    have hl:(cs.map SC.er).length=ts.length:=by
     have a:=abD h1
     rw[<-vP he,Ty.Bw] at a
     exact a.symm
    refine⟨e::es,o&&o',σ2,?_,h4⟩
    simp only[List.map_cons,St.kL,SV.jo hc,hl,if_true,h1,h3,vP he]
   ·cases h2
  ·cases hx
end
end Go.Am
