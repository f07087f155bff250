/- Am17: is an operation of the program what the abstract one says? No condition. -/
import Derived.Test.YtbgmbplglejidaaAmR
import Derived.Test.YtbgmbplglejidaaAmX
set_option linter.unusedVariables false
set_option linter.unusedSimpArgs false
namespace Go.Am
def Av:Option Operand->Option MO->Bool
 |none,none=>true
 |some x,some m=>bz x m
 |_,_=>false
def sD (P:Program) (t:TypeId) (sz:Nat) (k:TypeInfo->Value->Bool):Bool:=
 match P.underlying t with
 |some (.slice e)=>match P.info? e with
  |some i=>match i.zero with
   |some z=>i.size==sz&&decide (0<sz)&&k i z
   |none=>false
  |none=>false
 |_=>false
theorem vL {P:Program} {t:TypeId} {sz:Nat} {k:TypeInfo->Value->Bool} (h:sD P t sz k=true):
  ∃e i z,P.underlying t=some (.slice e)/\P.info? e=some i/\i.zero=some z/\i.size=sz/\0<sz/\k i z=true:=by
 unfold sD at h
 split at h
 ·rename_i e he
  split at h
  ·rename_i i hi
   split at h
   ·rename_i z hz
    simp only[Bool.and_eq_true,beq_iff_eq,decide_eq_true_eq] at h
    exact⟨e,i,z,he,hi,hz,h.1.1,h.1.2,h.2⟩
   ·cases h
  ·cases h
 ·cases h
def HY (P:Program) (t:TypeId) (zs:List ah):Bool:=
 match P.info? t with
 |some i=>match i.zero with
  |some z=>sC z.cells.toList zs
  |none=>false
 |none=>false
theorem XH {P:Program} {t:TypeId} {zs:List ah} (h:HY P t zs=true):∃i z,P.info? t=some i/\i.zero=some z/\sC z.cells.toList zs=true:=by
 unfold HY at h
 split at h
 ·rename_i i hi
  split at h
  ·rename_i z hz;exact⟨i,z,hi,hz,h⟩
  ·cases h
 ·cases h
def XB (P:Program) (t:TypeId) (parts:List (Nat×Operand)) (zs:List ah) (ms:List (Nat×Nat×MO)):Bool:=
 match P.underlying t with
 |some (.struct nN)=>match nN.toList.mapM (fun f=>(P.info? f.type).map fun i=>(f.offset,i.size)) with
  |some places=>HY P t zs&&xY places parts ms
  |none=>false
 |_=>false
def XG (P:Program) (t:TypeId) (sz:Nat):Bool:=
 match P.info? t with
 |some i=>i.size==sz&&decide (0<sz)
 |none=>false
def XD (P:Program) (t u:TypeId) (k:IntKind):Bool:=
 match P.underlying t,P.underlying u with
 |some _,some (.int k')=>k==k'
 |_,_=>false
def aau (P:Program) (t:TypeId):Bool:=
 match P.underlying t with
 |some .bool=>true
 |_=>false
def dX (P:Program) (o:Oper) (mo:aF):Bool:=
 match mo,o.op with
 |.mv m,.move x=>bz x m
 |.mv m,.assign x=>bz x m
 |.pick c x y,.pick c' x' y'=>bz c' c&&bz x' x&&bz y' y
 |.alloc zs,.alloc e=>HY P e zs
 |.box sz m,.box e x=>bz x m
 |.build zs ms,.build t parts=>XB P t parts.toList zs ms
 |.e7 sz ms,.buildSlice t len parts=>sD P t sz (fun _ _=>true)&&(ms.length==len)&&decide (parts.toList.map (·.1)=List.range len)&&decide (len*sz<=16777216)&&gi (parts.toList.map (·.2)) ms
 |.load ag sz m,.load t x=>bz x m&&pM P t ag sz
 |.mO ag sz m,.load t x=>bz x m&&pM P t ag sz
 |.store sz mx my,.store t x y=>o.dst.isNone&&bz x mx&&bz y my&&XG P t sz
 |.od m,.nilCheck x=>bz x m
 |.bin op mx my,.binOp wX t x y t'=>decide (op=wX)&&bz x mx&&bz y my
 |.me op mx my,.binOp wX t x y t'=>decide (op=wX)&&bz x mx&&bz y my&&aau P t
 |.un op mx,.unOp wX t x=>decide (op=wX)&&bz x mx
 |.conv k mx,.convert t u x=>bz x mx&&XD P t u k
 |.jC m sz by_ zs ml mc,.makeSlice t l c=>bz l ml&&bz c mc&&sD P t sz (fun i z=>(i.bytes==by_)&&decide (0<by_)&&tU z.cells.toList zs)
 |.slice sz mx Jw Jt,.slice t x lo hi none=>bz x mx&&Av lo Jw&&Av hi Jt&&sD P t sz (fun _ _=>true)
 |.tail sz mx ml,.slice t x (some y) none none=>bz x mx&&bz y ml&&sD P t sz (fun _ _=>true)
 |.ao off mx,.fieldAddr s x f=>bz x mx&&HU P s f off
 |.bm sz mx mi,.indexAddr t x i=>bz x mx&&bz i mi&&sD P t sz (fun _ _=>true)
 |.ext i mx,.extract x j=>(i==j)&&bz x mx
 |.oM ag off sz mx,.field s x f=>bz x mx&&Mw P s f off ag sz
 |.ou f bN mx,.call c=>match c.callee,c.args.toList with
  |.value (.func g),[x]=>(f==g)&&bi P f&&HX P f bN&&bz x mx
  |_,_=>false
 |.len mx,.call c=>match c.callee,c.args.toList,c.argTypes.toList with
  |.builtin .len,[x],[t]=>bz x mx&&(match P.underlying t with|some (.slice _)=>true|_=>false)
  |_,_,_=>false
 |.append fl sz by_ mx my,.call c=>match c.callee,c.args.toList,c.argTypes.toList with
  |.builtin .append,[x,y],[t,t']=>(t==t')&&bz x mx&&bz y my&&sD P t sz (fun i z=>(i.bytes==by_)&&decide (0<by_)&&(z.cells.size==sz))
  |_,_,_=>false
 |.copy sz mx my,.call c=>match c.callee,c.args.toList,c.argTypes.toList with
  |.builtin .copy,[x,y],[t,t']=>(sz==1)&&bz x mx&&bz y my&&sD P t 1 (fun _ _=>true)
  |_,_,_=>false
 |.kB zc mx,.call c=>match c.callee,c.args.toList,c.argTypes.toList with
  |.builtin .clear,[x],[t]=>bz x mx&&sD P t 1 (fun _ z=>tU z.cells.toList [zc])
  |_,_,_=>false
 |.mm b mx my,.call c=>match c.callee,c.args.toList with
  |.builtin .max,[x,y]=>b&&bz x mx&&bz y my
  |.builtin .min,[x,y]=> !b&&bz x mx&&bz y my
  |_,_=>false
 |.call m f ms,.call c=>match c.callee with
  |.value (.func g)=>(f==g)&&bi P f&&gi c.args.toList ms
  |_=>false
 |.mf f ms,.call c=>match c.callee with
  |.value (.func g)=>(f==g)&&bi P f&&gi c.args.toList ms
  |_=>false
 |.eN m f ms,.call c=>match c.callee with
  |.value (.func g)=>(f==g)&&bi P f&&gi c.args.toList ms
  |_=>false
 |.jh f ms,.call c=>match c.callee with
  |.value (.func g)=>(f==g)&&bi P f&&gi c.args.toList ms
  |_=>false
 |.mh f ms,.call c=>match c.callee with
  |.value (.func g)=>(f==g)&&bi P f&&gi c.args.toList ms
  |_=>false
 |.lv f ms,.call c=>match c.callee with
  |.value (.func g)=>(f==g)&&bi P f&&gi c.args.toList ms
  |_=>false
 |.pf f ms,.makeFunc (.func g) first xs=>(f==g)&&first.isEmpty&&bi P f&&gi xs.toList ms
 |.mg m mx ms,.call c=>match c.callee with
  |.value (.tmp t)=>bz (.tmp t) mx&&gi c.args.toList ms
  |_=>false
 |_,_=>false
theorem My:∀{xs:List Operand} {ms:List MO},gi xs ms=true->xs.length=ms.length/\∀(j:Nat) (x:Operand) (m:MO),xs[j]? =some x->ms[j]? =some m->bz x m=true
 |[],[],_=>⟨rfl,by simp⟩
 |x::xs,m::ms,hc=>by
  simp only[gi,Bool.and_eq_true] at hc
  obtain⟨i1,i2⟩:=My hc.2
  refine⟨by simp[i1],fun j x' m' hj hm=>?_⟩
  cases j with
  |zero=>simp at hj hm;subst hj;subst hm;exact hc.1
  |succ j=>exact i2 j x' m' (by simpa using hj) (by simpa using hm)
 |[],_::_,hc=>by simp[gi] at hc
 |_::_,[],hc=>by simp[gi] at hc
section
variable {B:Nat} {E:Ex} {w0 w w':World} {G G':Gh} {h h':Nat->Option aq} {used used':Nat->Bool} {tk:List PC} {N:Nat}
variable {P:Program} {o:Oper} {a:Act} {σ σ':St} {Q:Exit->Act->World->Prop}
theorem afY (r:R B E w0 N σ a w G) {T:aS} (AQ:Ad P T) {f:FuncId} {ms:List MO} (hN:∀n,o.dst=some n->n<N) (hc:dX P o (.lv f ms)=true) (hx:exec T o.dst (.lv f ms) σ=some σ'):o.wp P a w (Nx B E w0 N σ') Q:=by
 obtain⟨dst,op,ty,pos,after,guard⟩:=o
 cases op<;>simp only[dX] at hc<;>first|cases hc|skip
 rename_i c
 obtain⟨callee,args,argTypes⟩:=c
 split at hc
 ·rename_i g bG
  simp only at bG
  subst bG
  simp only[Bool.and_eq_true,beq_iff_eq] at hc
  obtain⟨⟨rfl,c1⟩,c2⟩:=hc
  simp only[exec] at hx
  split at hx
  ·rename_i v0 ww
   injection hx with hx
   subst hx
   exact Yw r AQ hN rfl c1 c2 (afk ww σ)
  ·cases hx
 ·cases hc
theorem afZ (r:R B E w0 N σ a w G) {T:aS} (OB:CR P T) {f:FuncId} {ms:List MO} (hN:∀n,o.dst=some n->n<N) (hc:dX P o (.mh f ms)=true) (hx:exec T o.dst (.mh f ms) σ=some σ'):o.wp P a w (Nx B E w0 N σ') Q:=by
 obtain⟨dst,op,ty,pos,after,guard⟩:=o
 cases op<;>simp only[dX] at hc<;>first|cases hc|skip
 rename_i c
 obtain⟨callee,args,argTypes⟩:=c
 split at hc
 ·rename_i g bG
  simp only at bG
  subst bG
  simp only[Bool.and_eq_true,beq_iff_eq] at hc
  obtain⟨⟨rfl,c1⟩,c2⟩:=hc
  simp only[exec] at hx
  split at hx
  ·rename_i v0 ww
   injection hx with hx
   subst hx
   exact afI r OB hN rfl c1 c2 ww
  ·cases hx
 ·cases hc
theorem afX (r:R B E w0 N σ a w G) {T:aS} (AQ:Ad P T) {f:FuncId} {ms:List MO} (hN:∀n,o.dst=some n->n<N) (hc:dX P o (.jh f ms)=true) (hx:exec T o.dst (.jh f ms) σ=some σ'):o.wp P a w (Nx B E w0 N σ') Q:=by
 obtain⟨dst,op,ty,pos,after,guard⟩:=o
 cases op<;>simp only[dX] at hc<;>first|cases hc|skip
 rename_i c
 obtain⟨callee,args,argTypes⟩:=c
 split at hc
 ·rename_i g bG
  simp only at bG
  subst bG
  simp only[Bool.and_eq_true,beq_iff_eq] at hc
  obtain⟨⟨rfl,c1⟩,c2⟩:=hc
  simp only[exec] at hx
  exact Yw r AQ hN rfl c1 c2 hx
 ·cases hc
theorem YD (r:R B E w0 N σ a w G) {T:aS} (hT:xT P T) (hTM:F9 P T) (AQ:Ad P T) (OB:CR P T) (hF:∀f M,aS.find T.pure f=some M->bi P f=true) {mo:aF} (hN:∀n,o.dst=some n->n<N) (hc:dX P o mo=true) (hx:exec T o.dst mo σ=some σ'):
  o.wp P a w (Nx B E w0 N σ') Q:=by
 obtain⟨dst,op,ty,pos,after,guard⟩:=o
 cases mo with
 |mv m=>
  simp only[exec] at hx
  injection hx with hx
  subst hx
  cases op<;>simp only[dX] at hc<;>first|cases hc|skip
  ·exact YB r (.inl rfl) hN hc
  ·exact YB r (.inr rfl) hN hc
 |pick c x y=>
  cases op<;>simp only[dX] at hc<;>first|cases hc|skip
  rename_i c' x' y'
  simp only[Bool.and_eq_true] at hc
  simp only[exec] at hx
  split at hx
  ·rename_i b hb
   have:=af0 (P:=P) (Q:=Q) r (o:=⟨dst,.pick c' x' y',ty,pos,after,guard⟩) rfl hN hc.1.1 hc.1.2 hc.2 hb
   cases b<;>simp at hx<;>subst hx<;>exact this
  ·cases hx
 |alloc zs=>
  cases op<;>simp only[dX] at hc<;>first|cases hc|skip
  obtain⟨i,z,h1,h2,h3⟩:=XH hc
  simp only[exec] at hx
  split at hx
  ·rename_i n
   split at hx
   ·rename_i σ1 hi
    injection hx with hx
    subst hx
    exact afx r rfl rfl (hN n rfl) h1 h2 h3 hi
   ·cases hx
  ·cases hx
 |box sz m=>
  cases op<;>simp only[dX] at hc<;>first|cases hc|skip
  simp only[exec] at hx
  split at hx
  ·rename_i n ag cs ew
   split at hx
   ·split at hx
    ·rename_i σ1 hi
     injection hx with hx
     subst hx
     exact afB r rfl rfl (hN _ rfl) hc ew hi
    ·cases hx
   ·cases hx
  ·cases hx
 |build zs ms=>
  cases op<;>simp only[dX] at hc<;>first|cases hc|skip
  simp only[exec] at hx
  split at hx
  ·rename_i cs ew
   injection hx with hx
   subst hx
   unfold XB at hc
   split at hc
   ·rename_i nN hu
    split at hc
    ·rename_i places fk
     simp only[Bool.and_eq_true] at hc
     obtain⟨i,z,h1,h2,h3⟩:=XH hc.1
     exact afD r rfl hN h1 h2 hu fk h3 hc.2 ew
    ·cases hc
   ·cases hc
  ·cases hx
 |e7 sz ms=>
  cases op<;>simp only[dX] at hc<;>first|cases hc|skip
  simp only[Bool.and_eq_true,beq_iff_eq,decide_eq_true_eq] at hc
  obtain⟨⟨⟨⟨c1,c2⟩,c3⟩,c4⟩,c5⟩:=hc
  obtain⟨e,i,z,h1,h2,h3,h4,h5,_⟩:=vL c1
  simp only[exec] at hx
  split at hx
  ·rename_i n es ow σ1 wu
   split at hx
   ·rename_i σ2 hi
    injection hx with hx
    subst hx
    refine afC r rfl rfl (hN _ rfl) h1 h2 h3 h4 h5 c2 c3 c4 (fun j p m hp hm=>?_) wu hi
    exact(My c5).2 j p.2 m (by simp[hp]) hm
   ·cases hx
  ·cases hx
 |load ag sz m=>
  cases op<;>simp only[dX] at hc<;>first|cases hc|skip
  simp only[Bool.and_eq_true] at hc
  simp only[exec] at hx
  split at hx
  ·rename_i p hp
   split at hx
   ·rename_i cs ew
    injection hx with hx
    subst hx
    exact YA r rfl hN hc.1 hc.2 hp ew
   ·cases hx
  ·cases hx
 |mO ag sz m=>
  cases op<;>simp only[dX] at hc<;>first|cases hc|skip
  simp only[Bool.and_eq_true] at hc
  simp only[exec] at hx
  split at hx
  ·rename_i p hp
   split at hx
   ·rename_i σ1 hf
    split at hx
    ·rename_i cs ew
     injection hx with hx
     subst hx
     exact afT r rfl hN hc.1 hc.2 hp hf ew
    ·cases hx
   ·cases hx
  ·cases hx
 |store sz mx my=>
  cases op<;>simp only[dX] at hc<;>first|cases hc|skip
  simp only[Bool.and_eq_true] at hc
  obtain⟨⟨⟨c0,c1⟩,c2⟩,c3⟩:=hc
  have hd:dst=none:=by simpa using c0
  unfold XG at c3
  split at c3
  ·rename_i i hi
   simp only[Bool.and_eq_true,beq_iff_eq,decide_eq_true_eq] at c3
   simp only[exec] at hx
   split at hx
   ·rename_i n k aD off ag vs hp hv
    split at hx
    ·rename_i hl
     split at hx
     ·rename_i cs hn
      split at hx
      ·rename_i hk
       injection hx with hx
       subst hx
       exact af1 r rfl hd c1 c2 hi c3.1 c3.2 hp hv hl hn hk.1 hk.2
      ·cases hx
     ·rename_i gr m rs xs hn
      split at hx
      ·rename_i rC
       subst rC
       split at hx
       ·rename_i el lJ
        exact af3 r rfl hd c1 c2 hi c3.1 c3.2 hp hv hl hn lJ hx
       ·cases hx
      ·cases hx
     ·cases hx
    ·cases hx
   ·rename_i n k aD off s i ag vs hp hv
    split at hx
    ·rename_i hl
     split at hx
     ·rename_i gr rs xs hn
      split at hx
      ·rename_i rC
       subst rC
       split at hx
       ·rename_i ar cq
        injection hx with hx
        subst hx
        exact af2 r rfl hd c1 c2 hi c3.1 c3.2 hp hv hl hn cq
       ·cases hx
      ·cases hx
     ·cases hx
    ·cases hx
   ·cases hx
  ·cases c3
 |od m=>
  cases op<;>simp only[dX] at hc<;>first|cases hc|skip
  simp only[exec] at hx
  split at hx
  ·rename_i n k sz off hp
   split at hx
   ·rename_i hn
    injection hx with hx
    subst hx
    rw[<-hp]
    exact YC r rfl hN hc (.inl ⟨_,_,_,_,hp,hn⟩)
   ·cases hx
  ·rename_i xs off hp
   injection hx with hx
   subst hx
   rw[<-hp]
   exact YC r rfl hN hc (.inr ⟨_,_,hp⟩)
  ·cases hx
 |bin wX mx my=>
  cases op<;>simp only[dX] at hc<;>first|cases hc|skip
  simp only[Bool.and_eq_true,decide_eq_true_eq] at hc
  obtain⟨⟨rfl,c1⟩,c2⟩:=hc
  simp only[exec] at hx
  split at hx
  ·rename_i c hb
   injection hx with hx
   subst hx
   exact afz r rfl hN c1 c2 hb
  ·cases hx
 |me wX mx my=>
  cases op<;>simp only[dX] at hc<;>first|cases hc|skip
  simp only[Bool.and_eq_true,decide_eq_true_eq] at hc
  obtain⟨⟨⟨rfl,c1⟩,c2⟩,c3⟩:=hc
  unfold aau at c3
  split at c3
  ·rename_i ht
   simp only[exec] at hx
   split at hx
   ·rename_i c hb
    injection hx with hx
    subst hx
    exact afA r rfl hN c1 c2 ht hb
   ·cases hx
  ·cases c3
 |un wX mx=>
  cases op<;>simp only[dX] at hc<;>first|cases hc|skip
  simp only[Bool.and_eq_true,decide_eq_true_eq] at hc
  obtain⟨rfl,c1⟩:=hc
  simp only[exec] at hx
  split at hx
  ·rename_i c hb
   injection hx with hx
   subst hx
   exact af5 r rfl hN c1 hb
  ·cases hx
 |conv k mx=>
  cases op<;>simp only[dX] at hc<;>first|cases hc|skip
  simp only[Bool.and_eq_true] at hc
  obtain⟨c1,c2⟩:=hc
  unfold XD at c2
  split at c2
  ·rename_i d k' ht hu
   have hk:k=k':=by simpa using c2
   subst hk
   simp only[exec] at hx
   split at hx
   ·rename_i k2 n hb
    injection hx with hx
    subst hx
    exact afK r rfl hN c1 ht hu hb
   ·cases hx
  ·cases c2
 |jC m sz by_ zs ml mc=>
  cases op<;>simp only[dX] at hc<;>first|cases hc|skip
  simp only[Bool.and_eq_true] at hc
  obtain⟨⟨c1,c2⟩,c3⟩:=hc
  obtain⟨e,i,z,h1,h2,h3,h4,h5,h6⟩:=vL c3
  simp only[Bool.and_eq_true,beq_iff_eq,decide_eq_true_eq] at h6
  simp only[exec] at hx
  split at hx
  ·rename_i n q q' hq ez
   split at hx
   ·rename_i cF
    obtain⟨k1,k2,k3,k4⟩:=cF
    split at hx
    ·rename_i σ1 hi
     injection hx with hx
     subst hx
     exact afV r rfl rfl (hN _ rfl) c1 c2 h1 h2 h3 h4 h6.1.1 h6.1.2 h5 h6.2 hq ez k1 k2 k3 k4 hi
    ·cases hx
   ·cases hx
  ·cases hx
 |slice sz mx Jw Jt=>
  cases op<;>simp only[dX] at hc<;>first|cases hc|skip
  rename_i t x lo hi mm
  cases mm<;>simp only[dX] at hc<;>first|cases hc|skip
  simp only[Bool.and_eq_true] at hc
  obtain⟨⟨⟨c1,c2⟩,c3⟩,c4⟩:=hc
  obtain⟨e,i,z,h1,h2,h3,h4,h5,_⟩:=vL c4
  have wg:∀l,(match Jw with|none=>some 0|some l=>(σ.ev l).dh)=some l->(lo=none/\l=0)\/∃y my,lo=some y/\bz y my=true/\(σ.ev my).dh=some l:=by
   intro l hl
   cases Jw with
   |none=>cases lo<;>simp[Av] at c2;simp at hl;exact .inl ⟨rfl,hl.symm⟩
   |some my=>cases lo<;>simp[Av] at c2;exact .inr ⟨_,my,rfl,c2,hl⟩
  have uw:∀(len:Nat) hh,(match Jt with|none=>some (len:Int)|some h=>(σ.ev h).dh)=some hh->(hi=none/\hh=len)\/∃y my,hi=some y/\bz y my=true/\(σ.ev my).dh=some hh:=by
   intro len l hl
   cases Jt with
   |none=>cases hi<;>simp[Av] at c3;simp at hl;exact .inl ⟨rfl,hl.symm⟩
   |some my=>cases hi<;>simp[Av] at c3;exact .inr ⟨_,my,rfl,c3,hl⟩
  simp only[exec] at hx
  split at hx
  ·rename_i n s l0 len l hp hl
   split at hx
   ·rename_i hh O1
    split at hx
    ·rename_i cF
     obtain⟨rfl,k1,k2,k3,k4⟩:=cF
     injection hx with hx
     subst hx
     exact YE r rfl hN c1 h1 h2 h4 h5 (wg l hl) (uw len hh O1) k1 k2 k3 (.inl ⟨n,l0,hp,k4,rfl⟩)
    ·cases hx
   ·cases hx
  ·rename_i s xs l hp hl
   split at hx
   ·rename_i hh O1
    split at hx
    ·rename_i cF
     obtain⟨rfl,k1,k2,k3⟩:=cF
     injection hx with hx
     subst hx
     exact YE r rfl hN c1 h1 h2 h4 h5 (wg l hl) (uw xs.length hh O1) k1 k2 k3 (.inr ⟨xs,hp,rfl,rfl⟩)
    ·cases hx
   ·cases hx
  ·cases hx
 |tail sz mx ml=>
  cases op<;>simp only[dX] at hc<;>first|cases hc|skip
  rename_i t x lo hi mm
  cases mm<;>cases hi<;>cases lo<;>simp only[dX] at hc<;>first|cases hc|skip
  rename_i y
  simp only[Bool.and_eq_true] at hc
  obtain⟨⟨c1,c2⟩,c4⟩:=hc
  obtain⟨e,i,z,h1,h2,h3,h4,h5,_⟩:=vL c4
  simp only[exec] at hx
  split at hx
  ·rename_i n a0 s len l hp hl
   split at hx
   ·rename_i m rs xs hn
    split at hx
    ·rename_i cF
     obtain⟨rfl,rfl,rfl,k1,k2⟩:=cF
     split at hx
     ·rename_i σ1 e1
      injection hx with hx
      subst hx
      exact af4 r rfl rfl (hN _ rfl) c1 c2 h1 h2 h4 h5 hp hl k1 k2 hn e1
     ·cases hx
    ·cases hx
   ·cases hx
  ·cases hx
 |ao off mx=>
  cases op<;>simp only[dX] at hc<;>first|cases hc|skip
  simp only[Bool.and_eq_true] at hc
  simp only[exec] at hx
  split at hx
  ·rename_i n k sz q hp
   split at hx
   ·rename_i hn
    injection hx with hx
    subst hx
    exact Yy r rfl hN hc.1 hc.2 (.inl ⟨_,_,_,_,hp,hn,rfl⟩)
   ·cases hx
  ·rename_i xs q hp
   injection hx with hx
   subst hx
   exact Yy r rfl hN hc.1 hc.2 (.inr ⟨_,_,hp,rfl⟩)
  ·cases hx
 |bm sz mx mi=>
  cases op<;>simp only[dX] at hc<;>first|cases hc|skip
  simp only[Bool.and_eq_true] at hc
  obtain⟨⟨c1,c2⟩,c3⟩:=hc
  obtain⟨e,i,z,h1,h2,h3,h4,h5,_⟩:=vL c3
  simp only[exec] at hx
  split at hx
  ·rename_i n s lo len k hp hk
   split at hx
   ·rename_i cF
    obtain⟨rfl,k1,k2,k3⟩:=cF
    injection hx with hx
    subst hx
    exact Yz r rfl hN c1 c2 h1 h2 h4 hk k1 (.inl ⟨_,_,_,hp,k2,k3,rfl⟩)
   ·cases hx
  ·rename_i s xs k hp hk
   split at hx
   ·rename_i cF
    obtain⟨rfl,k1⟩:=cF
    split at hx
    ·rename_i el lJ
     injection hx with hx
     subst hx
     exact Yz r rfl hN c1 c2 h1 h2 h4 hk k1 (.inr ⟨_,_,hp,lJ,rfl⟩)
    ·cases hx
   ·cases hx
  ·rename_i n kk aD off s len k hp hk
   split at hx
   ·rename_i s' ys Pz
    split at hx
    ·rename_i cF
     obtain⟨rfl,k1,k2⟩:=cF
     injection hx with hx
     subst hx
     exact afS r rfl hN c1 c2 h1 h2 h4 hk k1 k2 hp Pz
    ·cases hx
   ·cases hx
  ·cases hx
 |ext i mx=>
  cases op<;>simp only[dX] at hc<;>first|cases hc|skip
  simp only[Bool.and_eq_true,beq_iff_eq] at hc
  obtain⟨rfl,c1⟩:=hc
  simp only[exec] at hx
  split at hx
  ·rename_i xs hp
   split at hx
   ·rename_i ag cs ew
    injection hx with hx
    subst hx
    refine afQ r rfl hN c1 hp ew fun bq=>?_
    subst bq
    obtain⟨y1,_⟩:=r.ev c1
    rw[hp] at y1
    obtain⟨vs,_,hl,hv⟩:=y1
    have hi:i<vs.length:=by rw[hl];exact(List.getElem?_eq_some_iff.1 ew).1
    have:cJ w G σ.h cs [vs[i]]:=hv i (false,cs) vs[i] ew (List.getElem?_eq_getElem hi)
    exact List.length_eq_one_iff.1 this.1.symm
   ·cases hx
  ·cases hx
 |oM ag off sz mx=>
  cases op<;>simp only[dX] at hc<;>first|cases hc|skip
  simp only[Bool.and_eq_true] at hc
  simp only[exec] at hx
  split at hx
  ·rename_i cs hp
   split at hx
   ·rename_i l hl
    injection hx with hx
    subst hx
    exact afR r rfl hN hc.1 hc.2 hp hl
   ·cases hx
  ·cases hx
 |ou f bN mx=>
  cases op<;>simp only[dX] at hc<;>first|cases hc|skip
  rename_i c
  obtain⟨cal,args,Xd⟩:=c
  simp only at hc
  split at hc
  ·rename_i g x ru
   simp only[Bool.and_eq_true,beq_iff_eq] at hc
   obtain⟨⟨⟨hfg,c1⟩,c2⟩,c3⟩:=hc
   subst hfg
   have ea:args=#[x]:=by apply Array.ext';simpa using ru
   subst ea
   simp only[exec] at hx
   split at hx
   ·rename_i n sz lo len hp
    split at hx
    ·rename_i hs
     injection hx with hx
     subst hx
     exact M5 r hN rfl c1 c2 c3 hp (.inl ⟨n,sz,lo,rfl,hs⟩)
    ·cases hx
   ·rename_i sz xs hp
    injection hx with hx
    subst hx
    exact M5 r hN rfl c1 c2 c3 hp (.inr (.inl ⟨sz,xs,rfl,rfl⟩))
   ·rename_i sz hp
    injection hx with hx
    subst hx
    exact M5 r (len:=0) hN rfl c1 c2 c3 hp (.inr (.inr ⟨sz,rfl,rfl⟩))
   ·cases hx
  ·cases hc
 |len mx=>
  cases op<;>simp only[dX] at hc<;>first|cases hc|skip
  rename_i c
  obtain⟨callee,args,argTypes⟩:=c
  split at hc
  ·rename_i x t bG ha ht
   simp only at bG ha ht
   subst bG
   have uh:args=#[x]:=by apply Array.ext';exact ha
   have yG:argTypes=#[t]:=by apply Array.ext';exact ht
   subst uh yG
   simp only[Bool.and_eq_true] at hc
   obtain⟨c1,c2⟩:=hc
   split at c2
   ·rename_i e hu
    simp only[exec] at hx
    split at hx
    ·rename_i n sz lo len hp
     split at hx
     ·rename_i hn
      injection hx with hx
      subst hx
      exact Ir r rfl hN c1 hu (.inl ⟨_,_,_,hp,hn⟩)
     ·cases hx
    ·rename_i sz xs hp
     injection hx with hx
     subst hx
     exact Ir r rfl hN c1 hu (.inr (.inl ⟨_,_,hp,rfl⟩))
    ·rename_i sz hp
     injection hx with hx
     subst hx
     exact Ir r rfl hN c1 hu (.inr (.inr (.inl ⟨_,hp,rfl⟩)))
    ·rename_i n k aD off sz len hp
     split at hx
     ·rename_i s ys rF
      injection hx with hx
      subst hx
      exact Ir r rfl hN c1 hu (.inr (.inr (.inr ⟨_,_,_,_,_,_,_,_,hp,rF,rfl⟩)))
     ·cases hx
    ·cases hx
   ·cases c2
  ·cases hc
 |append fl sz by_ mx my=>
  cases op<;>simp only[dX] at hc<;>first|cases hc|skip
  rename_i c
  obtain⟨callee,args,argTypes⟩:=c
  split at hc
  ·rename_i x y t t' bG ha ht
   simp only at bG ha ht
   subst bG
   have uh:args=#[x,y]:=by apply Array.ext';exact ha
   have yG:argTypes=#[t,t']:=by apply Array.ext';exact ht
   subst uh yG
   simp only[Bool.and_eq_true,beq_iff_eq] at hc
   obtain⟨⟨⟨rfl,c1⟩,c2⟩,c3⟩:=hc
   obtain⟨e,i,z,h1,h2,h3,h4,h5,h6⟩:=vL c3
   simp only[Bool.and_eq_true,beq_iff_eq,decide_eq_true_eq] at h6
   simp only[exec] at hx
   split at hx
   ·cases hx
   ·rename_i n
    split at hx
    ·cases hx
    ·rename_i xs m σ1 hl
     split at hx
     ·cases hx
     ·rename_i ys m2 σ2 hr
      split at hx
      ·rename_i hb
       split at hx
       ·rename_i gD hi
        injection hx with hx
        subst hx
        exact afy r rfl rfl (hN _ rfl) c1 c2 h1 h2 h3 h4 h5 h6.1.1 h6.1.2 h6.2 hl hr hb hi
       ·cases hx
      ·cases hx
  ·cases hc
 |copy sz mx my=>
  cases op<;>simp only[dX] at hc<;>first|cases hc|skip
  rename_i c
  obtain⟨callee,args,argTypes⟩:=c
  split at hc
  ·rename_i x y t t' bG ha ht
   simp only at bG ha ht
   subst bG
   have uh:args=#[x,y]:=by apply Array.ext';exact ha
   have yG:argTypes=#[t,t']:=by apply Array.ext';exact ht
   subst uh yG
   simp only[Bool.and_eq_true,beq_iff_eq] at hc
   obtain⟨⟨⟨c0,c1⟩,c2⟩,c3⟩:=hc
   obtain⟨e,i,z,h1,h2,h3,h4,h5,_⟩:=vL c3
   simp only[exec] at hx
   split at hx
   ·rename_i n s lo len cc hp hq
    split at hx
    ·rename_i gr m rs xs s' ys hn hv
     split at hx
     ·rename_i cF
      obtain⟨rfl,rfl,rfl,rfl,k1,k2,k3,k4⟩:=cF
      injection hx with hx
      subst hx
      exact afL r rfl hN c1 c2 h1 h2 h4 hp hq hn hv k1 k2 k3 k4
     ·cases hx
    ·cases hx
   ·cases hx
  ·cases hc
 |kB zc mx=>
  cases op<;>simp only[dX] at hc<;>first|cases hc|skip
  rename_i c
  obtain⟨callee,args,argTypes⟩:=c
  split at hc
  ·rename_i x t bG ha ht
   simp only at bG ha ht
   subst bG
   have uh:args=#[x]:=by apply Array.ext';exact ha
   have yG:argTypes=#[t]:=by apply Array.ext';exact ht
   subst uh yG
   simp only[Bool.and_eq_true] at hc
   obtain⟨c1,c3⟩:=hc
   obtain⟨e,i,z,h1,h2,h3,h4,h5,h6⟩:=vL c3
   simp only[exec] at hx
   split at hx
   ·rename_i n s lo len hp
    split at hx
    ·rename_i gr m rs xs hn
     split at hx
     ·rename_i cF
      obtain⟨rfl,rfl,k0,k1,k2,k3⟩:=cF
      injection hx with hx
      subst hx
      exact afJ r rfl hN c1 h1 h2 h3 h6 k0 hp hn k1 k2 k3
     ·cases hx
    ·cases hx
   ·cases hx
  ·cases hc
 |mm b mx my=>
  cases op<;>simp only[dX] at hc<;>first|cases hc|skip
  rename_i c
  obtain⟨callee,args,argTypes⟩:=c
  have cV:∀x y,callee=.builtin (if b=true then .max else .min)->args=#[x,y]->bz x mx=true->bz y my=true->
    Oper.wp P ⟨dst,.call ⟨callee,args,argTypes⟩,ty,pos,after,guard⟩ a w (Nx B E w0 N σ') Q:=by
   intro x y bG ha c1 c2
   subst bG ha
   simp only[exec] at hx
   split at hx
   ·rename_i k n k' m h1 h2
    have:=afW (P:=P) (Q:=Q) (mx':=b) r (o:=⟨dst,.call ⟨.builtin (if b=true then .max else .min),#[x,y],argTypes⟩,ty,pos,after,guard⟩) rfl hN c1 c2 h1 h2
    cases b
    ·simp at hx this
     split at hx<;>(rename_i bB;injection hx with hx;subst hx;simpa[bB] using this)
    ·simp at hx this
     split at hx<;>(rename_i bB;injection hx with hx;subst hx;simpa[bB] using this)
   ·cases hx
  split at hc
  ·rename_i x y bG ha
   simp only[Bool.and_eq_true] at hc
   obtain⟨⟨rfl,c1⟩,c2⟩:=hc
   exact cV x y bG (by apply Array.ext';exact ha) c1 c2
  ·rename_i x y bG ha
   simp only[Bool.and_eq_true,Bool.not_eq_true'] at hc
   obtain⟨⟨rfl,c1⟩,c2⟩:=hc
   exact cV x y bG (by apply Array.ext';exact ha) c1 c2
  ·cases hc
 |call m f ms=>
  cases op<;>simp only[dX] at hc<;>first|cases hc|skip
  rename_i c
  obtain⟨callee,args,argTypes⟩:=c
  split at hc
  ·rename_i g bG
   simp only at bG
   subst bG
   simp only[Bool.and_eq_true,beq_iff_eq] at hc
   obtain⟨⟨rfl,c1⟩,c2⟩:=hc
   exact afE r hT hN rfl c1 c2 hx
  ·cases hc
 |mf f ms=>
  cases op<;>simp only[dX] at hc<;>first|cases hc|skip
  rename_i c
  obtain⟨callee,args,argTypes⟩:=c
  split at hc
  ·rename_i g bG
   simp only at bG
   subst bG
   simp only[Bool.and_eq_true,beq_iff_eq] at hc
   obtain⟨⟨rfl,c1⟩,c2⟩:=hc
   simp only[exec] at hx
   split at hx
   ·rename_i z hz
    injection hx with hx
    subst hx
    exact afF r hT hN rfl c1 c2 hz
   ·cases hx
  ·cases hc
 |eN m f ms=>
  cases op<;>simp only[dX] at hc<;>first|cases hc|skip
  rename_i c
  obtain⟨callee,args,argTypes⟩:=c
  split at hc
  ·rename_i g bG
   simp only at bG
   subst bG
   simp only[Bool.and_eq_true,beq_iff_eq] at hc
   obtain⟨⟨rfl,c1⟩,c2⟩:=hc
   simp only[exec] at hx
   exact afG r hTM hN rfl c1 c2 hx
  ·cases hc
 |jh f ms=>exact afX r AQ hN hc hx
 |mh f ms=>exact afZ r OB hN hc hx
 |lv f ms=>exact afY r AQ hN hc hx
 |pf f ms=>
  cases op<;>simp only[dX] at hc<;>first|cases hc|skip
  rename_i fn first xs
  cases fn<;>simp only at hc<;>first|cases hc|skip
  simp only[Bool.and_eq_true,beq_iff_eq] at hc
  obtain⟨⟨⟨rfl,c0⟩,c1⟩,c2⟩:=hc
  have hf0:first=#[]:=by simpa using c0
  subst hf0
  obtain⟨g1,g2⟩:=My c2
  simp only[exec] at hx
  split at hx
  ·rename_i cs ew
   split at hx
   ·rename_i hj
    injection hx with hx
    subst hx
    exact afU r rfl hN ⟨by simpa using g1.symm,g2⟩ ew (fun c hc f9=>by
     have:=List.all_eq_true.1 hj c hc
     subst f9
     simp[ah.EH] at this)
   ·cases hx
  ·cases hx
 |mg m mx ms=>
  cases op<;>simp only[dX] at hc<;>first|cases hc|skip
  rename_i c
  obtain⟨callee,args,argTypes⟩:=c
  split at hc
  ·rename_i t bG
   simp only at bG
   subst bG
   simp only[Bool.and_eq_true] at hc
   simp only[exec] at hx
   split at hx
   ·rename_i f cf hp
    have hfk:bi P f=true:=by
     have fm:=hx
     unfold rb at fm
     split at fm
     ·split at fm
      ·rename_i M hM;exact hF f M hM
      ·cases fm
     ·cases fm
    exact afH r hT hN rfl hfk hc.1 hc.2 hp hx
   ·cases hx
  ·cases hc
end
end Go.Am
