/- Am17: is an operation of the program what the abstract one says? No condition. -/
import Derived.Test.YtbgmbplglejidaaAmR
import Derived.Test.YtbgmbplglejidaaAmX
set_option linter.unusedVariables false
set_option linter.unusedSimpArgs false
namespace Go.Am
def AS:Option Operand->Option MO->Bool
 |none,none=>true
 |some x,some m=>bz x m
 |_,_=>false
def sW (P:Program) (t:TypeId) (sz:Nat) (k:TypeInfo->Value->Bool):Bool:=
 match P.underlying t with
 |some (.slice e)=>match P.info? e with
  |some i=>match i.zero with
   |some z=>i.size==sz&&decide (0<sz)&&k i z
   |none=>false
  |none=>false
 |_=>false
theorem vW {P:Program} {t:TypeId} {sz:Nat} {k:TypeInfo->Value->Bool} (h:sW P t sz k=true):
  ∃e i z,P.underlying t=some (.slice e)/\P.info? e=some i/\i.zero=some z/\i.size=sz/\0<sz/\k i z=true:=by
 unfold sW at h
 split at h
 ·rename_i e he
  split at h
  ·rename_i i hi
   split at h
   ·rename_i z hz
    simp only[Bool.and_eq_true,beq_iff_eq,decide_eq_true_eq] at h
    exact⟨e,i,z,he,hi,hz,h.1.1,h.1.2,h.2⟩
   ·cases h
  ·cases h
 ·cases h
def Ix (P:Program) (t:TypeId) (zs:List ah):Bool:=
 match P.info? t with
 |some i=>match i.zero with
  |some z=>sV z.cells.toList zs
  |none=>false
 |none=>false
theorem Xv {P:Program} {t:TypeId} {zs:List ah} (h:Ix P t zs=true):∃i z,P.info? t=some i/\i.zero=some z/\sV z.cells.toList zs=true:=by
 unfold Ix at h
 split at h
 ·rename_i i hi
  split at h
  ·rename_i z hz;exact⟨i,z,hi,hz,h⟩
  ·cases h
 ·cases h
def Xp (P:Program) (t:TypeId) (parts:List (Nat×Operand)) (zs:List ah) (ms:List (Nat×Nat×MO)):Bool:=
 match P.underlying t with
 |some (.struct oy)=>match oy.toList.mapM (fun f=>(P.info? f.type).map fun i=>(f.offset,i.size)) with
  |some places=>Ix P t zs&&xZ places parts ms
  |none=>false
 |_=>false
def Xu (P:Program) (t:TypeId) (sz:Nat):Bool:=
 match P.info? t with
 |some i=>i.size==sz&&decide (0<sz)
 |none=>false
def Xr (P:Program) (t u:TypeId) (k:IntKind):Bool:=
 match P.underlying t,P.underlying u with
 |some _,some (.int k')=>k==k'
 |_,_=>false
def aap (P:Program) (t:TypeId):Bool:=
 match P.underlying t with
 |some .bool=>true
 |_=>false
def d7 (P:Program) (o:Oper) (mo:aH):Bool:=
 match mo,o.op with
 |.mv m,.move x=>bz x m
 |.mv m,.assign x=>bz x m
 |.pick c x y,.pick c' x' y'=>bz c' c&&bz x' x&&bz y' y
 |.alloc zs,.alloc e=>Ix P e zs
 |.box sz m,.box e x=>bz x m
 |.build zs ms,.build t parts=>Xp P t parts.toList zs ms
 |.fC sz ms,.buildSlice t len parts=>sW P t sz (fun _ _=>true)&&(ms.length==len)&&decide (parts.toList.map (·.1)=List.range len)&&decide (len*sz<=16777216)&&gG (parts.toList.map (·.2)) ms
 |.load ag sz m,.load t x=>bz x m&&qw P t ag sz
 |.nh ag sz m,.load t x=>bz x m&&qw P t ag sz
 |.store sz mx my,.store t x y=>o.dst.isNone&&bz x mx&&bz y my&&Xu P t sz
 |.gR m,.nilCheck x=>bz x m
 |.bin op mx my,.binOp wZ t x y t'=>decide (op=wZ)&&bz x mx&&bz y my
 |.pj op mx my,.binOp wZ t x y t'=>decide (op=wZ)&&bz x mx&&bz y my&&aap P t
 |.un op mx,.unOp wZ t x=>decide (op=wZ)&&bz x mx
 |.conv k mx,.convert t u x=>bz x mx&&Xr P t u k
 |.kc m sz by_ zs ml mc,.makeSlice t l c=>bz l ml&&bz c mc&&sW P t sz (fun i z=>(i.bytes==by_)&&decide (0<by_)&&ua z.cells.toList zs)
 |.slice sz mx Kc J9,.slice t x lo hi none=>bz x mx&&AS lo Kc&&AS hi J9&&sW P t sz (fun _ _=>true)
 |.tail sz mx ml,.slice t x (some y) none none=>bz x mx&&bz y ml&&sW P t sz (fun _ _=>true)
 |.ar off mx,.fieldAddr s x f=>bz x mx&&Iu P s f off
 |.cb sz mx mi,.indexAddr t x i=>bz x mx&&bz i mi&&sW P t sz (fun _ _=>true)
 |.ext i mx,.extract x j=>(i==j)&&bz x mx
 |.pz ag off sz mx,.field s x f=>bz x mx&&M4 P s f off ag sz
 |.oW f bK mx,.call c=>match c.callee,c.args.toList with
  |.value (.func g),[x]=>(f==g)&&bD P f&&Iw P f bK&&bz x mx
  |_,_=>false
 |.len mx,.call c=>match c.callee,c.args.toList,c.argTypes.toList with
  |.builtin .len,[x],[t]=>bz x mx&&(match P.underlying t with|some (.slice _)=>true|_=>false)
  |_,_,_=>false
 |.append fl sz by_ mx my,.call c=>match c.callee,c.args.toList,c.argTypes.toList with
  |.builtin .append,[x,y],[t,t']=>(t==t')&&bz x mx&&bz y my&&sW P t sz (fun i z=>(i.bytes==by_)&&decide (0<by_)&&(z.cells.size==sz))
  |_,_,_=>false
 |.copy sz mx my,.call c=>match c.callee,c.args.toList,c.argTypes.toList with
  |.builtin .copy,[x,y],[t,t']=>(sz==1)&&bz x mx&&bz y my&&sW P t 1 (fun _ _=>true)
  |_,_,_=>false
 |.kV zc mx,.call c=>match c.callee,c.args.toList,c.argTypes.toList with
  |.builtin .clear,[x],[t]=>bz x mx&&sW P t 1 (fun _ z=>ua z.cells.toList [zc])
  |_,_,_=>false
 |.mm b mx my,.call c=>match c.callee,c.args.toList with
  |.builtin .max,[x,y]=>b&&bz x mx&&bz y my
  |.builtin .min,[x,y]=> !b&&bz x mx&&bz y my
  |_,_=>false
 |.call m f ms,.call c=>match c.callee with
  |.value (.func g)=>(f==g)&&bD P f&&gG c.args.toList ms
  |_=>false
 |.mP f ms,.call c=>match c.callee with
  |.value (.func g)=>(f==g)&&bD P f&&gG c.args.toList ms
  |_=>false
 |.gb m f ms,.call c=>match c.callee with
  |.value (.func g)=>(f==g)&&bD P f&&gG c.args.toList ms
  |_=>false
 |.dZ f ms,.call c=>match c.callee with
  |.value (.func g)=>(f==g)&&bD P f&&gG c.args.toList ms
  |_=>false
 |.mR f ms,.call c=>match c.callee with
  |.value (.func g)=>(f==g)&&bD P f&&gG c.args.toList ms
  |_=>false
 |.lZ f ms,.call c=>match c.callee with
  |.value (.func g)=>(f==g)&&bD P f&&gG c.args.toList ms
  |_=>false
 |.pU f ms,.makeFunc (.func g) first xs=>(f==g)&&first.isEmpty&&bD P f&&gG xs.toList ms
 |.mQ m mx ms,.call c=>match c.callee with
  |.value (.tmp t)=>bz (.tmp t) mx&&gG c.args.toList ms
  |_=>false
 |_,_=>false
theorem M5:∀{xs:List Operand} {ms:List MO},gG xs ms=true->xs.length=ms.length/\∀(j:Nat) (x:Operand) (m:MO),xs[j]? =some x->ms[j]? =some m->bz x m=true
 |[],[],_=>⟨rfl,by simp⟩
 |x::xs,m::ms,hc=>by
  simp only[gG,Bool.and_eq_true] at hc
  obtain⟨i1,i2⟩:=M5 hc.2
  refine⟨by simp[i1],fun j x' m' hj hm=>?_⟩
  cases j with
  |zero=>simp at hj hm;subst hj;subst hm;exact hc.1
  |succ j=>exact i2 j x' m' (by simpa using hj) (by simpa using hm)
 |[],_::_,hc=>by simp[gG] at hc
 |_::_,[],hc=>by simp[gG] at hc
section
variable {B:Nat} {E:Ex} {w0 w w':World} {G G':Gh} {h h':Nat->Option ao} {used used':Nat->Bool} {tk:List PC} {N:Nat}
variable {P:Program} {o:Oper} {a:Act} {σ σ':St} {Q:Exit->Act->World->Prop}
theorem af5 (r:R B E w0 N σ a w G) {T:aO} (Bm:Ay P T) {f:FuncId} {ms:List MO} (hN:∀n,o.dst=some n->n<N) (hc:d7 P o (.lZ f ms)=true) (hx:exec T o.dst (.lZ f ms) σ=some σ'):o.wp P a w (Nx B E w0 N σ') Q:=by
 obtain⟨dst,op,ty,pos,after,guard⟩:=o
 cases op<;>simp only[d7] at hc<;>first|cases hc|skip
 rename_i c
 obtain⟨callee,args,argTypes⟩:=c
 split at hc
 ·rename_i g bO
  simp only at bO
  subst bO
  simp only[Bool.and_eq_true,beq_iff_eq] at hc
  obtain⟨⟨rfl,c1⟩,c2⟩:=hc
  simp only[exec] at hx
  split at hx
  ·rename_i v0 wG
   injection hx with hx
   subst hx
   exact Yi r Bm hN rfl c1 c2 (afq wG σ)
  ·cases hx
 ·cases hc
theorem af6 (r:R B E w0 N σ a w G) {T:aO} (OL:Dn P T) {f:FuncId} {ms:List MO} (hN:∀n,o.dst=some n->n<N) (hc:d7 P o (.mR f ms)=true) (hx:exec T o.dst (.mR f ms) σ=some σ'):o.wp P a w (Nx B E w0 N σ') Q:=by
 obtain⟨dst,op,ty,pos,after,guard⟩:=o
 cases op<;>simp only[d7] at hc<;>first|cases hc|skip
 rename_i c
 obtain⟨callee,args,argTypes⟩:=c
 split at hc
 ·rename_i g bO
  simp only at bO
  subst bO
  simp only[Bool.and_eq_true,beq_iff_eq] at hc
  obtain⟨⟨rfl,c1⟩,c2⟩:=hc
  simp only[exec] at hx
  split at hx
  ·rename_i v0 wG
   injection hx with hx
   subst hx
   exact afP r OL hN rfl c1 c2 wG
  ·cases hx
 ·cases hc
theorem af4 (r:R B E w0 N σ a w G) {T:aO} (Bm:Ay P T) {f:FuncId} {ms:List MO} (hN:∀n,o.dst=some n->n<N) (hc:d7 P o (.dZ f ms)=true) (hx:exec T o.dst (.dZ f ms) σ=some σ'):o.wp P a w (Nx B E w0 N σ') Q:=by
 obtain⟨dst,op,ty,pos,after,guard⟩:=o
 cases op<;>simp only[d7] at hc<;>first|cases hc|skip
 rename_i c
 obtain⟨callee,args,argTypes⟩:=c
 split at hc
 ·rename_i g bO
  simp only at bO
  subst bO
  simp only[Bool.and_eq_true,beq_iff_eq] at hc
  obtain⟨⟨rfl,c1⟩,c2⟩:=hc
  simp only[exec] at hx
  exact Yi r Bm hN rfl c1 c2 hx
 ·cases hc
theorem Yp (r:R B E w0 N σ a w G) {T:aO} (hT:xS P T) (hTM:GW P T) (Bm:Ay P T) (OL:Dn P T) (hF:∀f M,aO.find T.pure f=some M->bD P f=true) {mo:aH} (hN:∀n,o.dst=some n->n<N) (hc:d7 P o mo=true) (hx:exec T o.dst mo σ=some σ'):
  o.wp P a w (Nx B E w0 N σ') Q:=by
 obtain⟨dst,op,ty,pos,after,guard⟩:=o
 cases mo with
 |mv m=>
  simp only[exec] at hx
  injection hx with hx
  subst hx
  cases op<;>simp only[d7] at hc<;>first|cases hc|skip
  ·exact Yn r (.inl rfl) hN hc
  ·exact Yn r (.inr rfl) hN hc
 |pick c x y=>
  cases op<;>simp only[d7] at hc<;>first|cases hc|skip
  rename_i c' x' y'
  simp only[Bool.and_eq_true] at hc
  simp only[exec] at hx
  split at hx
  ·rename_i b hb
   have:=af7 (P:=P) (Q:=Q) r (o:=⟨dst,.pick c' x' y',ty,pos,after,guard⟩) rfl hN hc.1.1 hc.1.2 hc.2 hb
   cases b<;>simp at hx<;>subst hx<;>exact this
  ·cases hx
 |alloc zs=>
  cases op<;>simp only[d7] at hc<;>first|cases hc|skip
  obtain⟨i,z,h1,h2,h3⟩:=Xv hc
  simp only[exec] at hx
  split at hx
  ·rename_i n
   split at hx
   ·rename_i σ1 hi
    injection hx with hx
    subst hx
    exact afE r rfl rfl (hN n rfl) h1 h2 h3 hi
   ·cases hx
  ·cases hx
 |box sz m=>
  cases op<;>simp only[d7] at hc<;>first|cases hc|skip
  simp only[exec] at hx
  split at hx
  ·rename_i n ag cs eB
   split at hx
   ·split at hx
    ·rename_i σ1 hi
     injection hx with hx
     subst hx
     exact afI r rfl rfl (hN _ rfl) hc eB hi
    ·cases hx
   ·cases hx
  ·cases hx
 |build zs ms=>
  cases op<;>simp only[d7] at hc<;>first|cases hc|skip
  simp only[exec] at hx
  split at hx
  ·rename_i cs eB
   injection hx with hx
   subst hx
   unfold Xp at hc
   split at hc
   ·rename_i oy hu
    split at hc
    ·rename_i places fK
     simp only[Bool.and_eq_true] at hc
     obtain⟨i,z,h1,h2,h3⟩:=Xv hc.1
     exact afK r rfl hN h1 h2 hu fK h3 hc.2 eB
    ·cases hc
   ·cases hc
  ·cases hx
 |fC sz ms=>
  cases op<;>simp only[d7] at hc<;>first|cases hc|skip
  simp only[Bool.and_eq_true,beq_iff_eq,decide_eq_true_eq] at hc
  obtain⟨⟨⟨⟨c1,c2⟩,c3⟩,c4⟩,c5⟩:=hc
  obtain⟨e,i,z,h1,h2,h3,h4,h5,_⟩:=vW c1
  simp only[exec] at hx
  split at hx
  ·rename_i n es ow σ1 wE
   split at hx
   ·rename_i σ2 hi
    injection hx with hx
    subst hx
    refine afJ r rfl rfl (hN _ rfl) h1 h2 h3 h4 h5 c2 c3 c4 (fun j p m hp hm=>?_) wE hi
    exact(M5 c5).2 j p.2 m (by simp[hp]) hm
   ·cases hx
  ·cases hx
 |load ag sz m=>
  cases op<;>simp only[d7] at hc<;>first|cases hc|skip
  simp only[Bool.and_eq_true] at hc
  simp only[exec] at hx
  split at hx
  ·rename_i p hp
   split at hx
   ·rename_i cs eB
    injection hx with hx
    subst hx
    exact Ym r rfl hN hc.1 hc.2 hp eB
   ·cases hx
  ·cases hx
 |nh ag sz m=>
  cases op<;>simp only[d7] at hc<;>first|cases hc|skip
  simp only[Bool.and_eq_true] at hc
  simp only[exec] at hx
  split at hx
  ·rename_i p hp
   split at hx
   ·rename_i σ1 hf
    split at hx
    ·rename_i cs eB
     injection hx with hx
     subst hx
     exact af0 r rfl hN hc.1 hc.2 hp hf eB
    ·cases hx
   ·cases hx
  ·cases hx
 |store sz mx my=>
  cases op<;>simp only[d7] at hc<;>first|cases hc|skip
  simp only[Bool.and_eq_true] at hc
  obtain⟨⟨⟨c0,c1⟩,c2⟩,c3⟩:=hc
  have hd:dst=none:=by simpa using c0
  unfold Xu at c3
  split at c3
  ·rename_i i hi
   simp only[Bool.and_eq_true,beq_iff_eq,decide_eq_true_eq] at c3
   simp only[exec] at hx
   split at hx
   ·rename_i n k aA off ag vs hp hv
    split at hx
    ·rename_i hl
     split at hx
     ·rename_i cs hn
      split at hx
      ·rename_i hk
       injection hx with hx
       subst hx
       exact af8 r rfl hd c1 c2 hi c3.1 c3.2 hp hv hl hn hk.1 hk.2
      ·cases hx
     ·rename_i gr m rs xs hn
      split at hx
      ·rename_i se
       subst se
       split at hx
       ·rename_i el mr
        exact aga r rfl hd c1 c2 hi c3.1 c3.2 hp hv hl hn mr hx
       ·cases hx
      ·cases hx
     ·cases hx
    ·cases hx
   ·rename_i n k aA off s i ag vs hp hv
    split at hx
    ·rename_i hl
     split at hx
     ·rename_i gr rs xs hn
      split at hx
      ·rename_i se
       subst se
       split at hx
       ·rename_i aq dA
        injection hx with hx
        subst hx
        exact af9 r rfl hd c1 c2 hi c3.1 c3.2 hp hv hl hn dA
       ·cases hx
      ·cases hx
     ·cases hx
    ·cases hx
   ·cases hx
  ·cases c3
 |gR m=>
  cases op<;>simp only[d7] at hc<;>first|cases hc|skip
  simp only[exec] at hx
  split at hx
  ·rename_i n k sz off hp
   split at hx
   ·rename_i hn
    injection hx with hx
    subst hx
    rw[<-hp]
    exact Yo r rfl hN hc (.inl ⟨_,_,_,_,hp,hn⟩)
   ·cases hx
  ·rename_i xs off hp
   injection hx with hx
   subst hx
   rw[<-hp]
   exact Yo r rfl hN hc (.inr ⟨_,_,hp⟩)
  ·cases hx
 |bin wZ mx my=>
  cases op<;>simp only[d7] at hc<;>first|cases hc|skip
  simp only[Bool.and_eq_true,decide_eq_true_eq] at hc
  obtain⟨⟨rfl,c1⟩,c2⟩:=hc
  simp only[exec] at hx
  split at hx
  ·rename_i c hb
   injection hx with hx
   subst hx
   exact afG r rfl hN c1 c2 hb
  ·cases hx
 |pj wZ mx my=>
  cases op<;>simp only[d7] at hc<;>first|cases hc|skip
  simp only[Bool.and_eq_true,decide_eq_true_eq] at hc
  obtain⟨⟨⟨rfl,c1⟩,c2⟩,c3⟩:=hc
  unfold aap at c3
  split at c3
  ·rename_i ht
   simp only[exec] at hx
   split at hx
   ·rename_i c hb
    injection hx with hx
    subst hx
    exact afH r rfl hN c1 c2 ht hb
   ·cases hx
  ·cases c3
 |un wZ mx=>
  cases op<;>simp only[d7] at hc<;>first|cases hc|skip
  simp only[Bool.and_eq_true,decide_eq_true_eq] at hc
  obtain⟨rfl,c1⟩:=hc
  simp only[exec] at hx
  split at hx
  ·rename_i c hb
   injection hx with hx
   subst hx
   exact agc r rfl hN c1 hb
  ·cases hx
 |conv k mx=>
  cases op<;>simp only[d7] at hc<;>first|cases hc|skip
  simp only[Bool.and_eq_true] at hc
  obtain⟨c1,c2⟩:=hc
  unfold Xr at c2
  split at c2
  ·rename_i d k' ht hu
   have hk:k=k':=by simpa using c2
   subst hk
   simp only[exec] at hx
   split at hx
   ·rename_i k2 n hb
    injection hx with hx
    subst hx
    exact afR r rfl hN c1 ht hu hb
   ·cases hx
  ·cases c2
 |kc m sz by_ zs ml mc=>
  cases op<;>simp only[d7] at hc<;>first|cases hc|skip
  simp only[Bool.and_eq_true] at hc
  obtain⟨⟨c1,c2⟩,c3⟩:=hc
  obtain⟨e,i,z,h1,h2,h3,h4,h5,h6⟩:=vW c3
  simp only[Bool.and_eq_true,beq_iff_eq,decide_eq_true_eq] at h6
  simp only[exec] at hx
  split at hx
  ·rename_i n q q' hq eD
   split at hx
   ·rename_i cM
    obtain⟨k1,k2,k3,k4⟩:=cM
    split at hx
    ·rename_i σ1 hi
     injection hx with hx
     subst hx
     exact af2 r rfl rfl (hN _ rfl) c1 c2 h1 h2 h3 h4 h6.1.1 h6.1.2 h5 h6.2 hq eD k1 k2 k3 k4 hi
    ·cases hx
   ·cases hx
  ·cases hx
 |slice sz mx Kc J9=>
  cases op<;>simp only[d7] at hc<;>first|cases hc|skip
  rename_i t x lo hi mm
  cases mm<;>simp only[d7] at hc<;>first|cases hc|skip
  simp only[Bool.and_eq_true] at hc
  obtain⟨⟨⟨c1,c2⟩,c3⟩,c4⟩:=hc
  obtain⟨e,i,z,h1,h2,h3,h4,h5,_⟩:=vW c4
  have ww:∀l,(match Kc with|none=>some 0|some l=>(σ.ev l).dj)=some l->(lo=none/\l=0)\/∃y my,lo=some y/\bz y my=true/\(σ.ev my).dj=some l:=by
   intro l hl
   cases Kc with
   |none=>cases lo<;>simp[AS] at c2;simp at hl;exact .inl ⟨rfl,hl.symm⟩
   |some my=>cases lo<;>simp[AS] at c2;exact .inr ⟨_,my,rfl,c2,hl⟩
  have uF:∀(len:Nat) hh,(match J9 with|none=>some (len:Int)|some h=>(σ.ev h).dj)=some hh->(hi=none/\hh=len)\/∃y my,hi=some y/\bz y my=true/\(σ.ev my).dj=some hh:=by
   intro len l hl
   cases J9 with
   |none=>cases hi<;>simp[AS] at c3;simp at hl;exact .inl ⟨rfl,hl.symm⟩
   |some my=>cases hi<;>simp[AS] at c3;exact .inr ⟨_,my,rfl,c3,hl⟩
  simp only[exec] at hx
  split at hx
  ·rename_i n s l0 len l hp hl
   split at hx
   ·rename_i hh O9
    split at hx
    ·rename_i cM
     obtain⟨rfl,k1,k2,k3,k4⟩:=cM
     injection hx with hx
     subst hx
     exact Yq r rfl hN c1 h1 h2 h4 h5 (ww l hl) (uF len hh O9) k1 k2 k3 (.inl ⟨n,l0,hp,k4,rfl⟩)
    ·cases hx
   ·cases hx
  ·rename_i s xs l hp hl
   split at hx
   ·rename_i hh O9
    split at hx
    ·rename_i cM
     obtain⟨rfl,k1,k2,k3⟩:=cM
     injection hx with hx
     subst hx
     exact Yq r rfl hN c1 h1 h2 h4 h5 (ww l hl) (uF xs.length hh O9) k1 k2 k3 (.inr ⟨xs,hp,rfl,rfl⟩)
    ·cases hx
   ·cases hx
  ·cases hx
 |tail sz mx ml=>
  cases op<;>simp only[d7] at hc<;>first|cases hc|skip
  rename_i t x lo hi mm
  cases mm<;>cases hi<;>cases lo<;>simp only[d7] at hc<;>first|cases hc|skip
  rename_i y
  simp only[Bool.and_eq_true] at hc
  obtain⟨⟨c1,c2⟩,c4⟩:=hc
  obtain⟨e,i,z,h1,h2,h3,h4,h5,_⟩:=vW c4
  simp only[exec] at hx
  split at hx
  ·rename_i n a0 s len l hp hl
   split at hx
   ·rename_i m rs xs hn
    split at hx
    ·rename_i cM
     obtain⟨rfl,rfl,rfl,k1,k2⟩:=cM
     split at hx
     ·rename_i σ1 e1
      injection hx with hx
      subst hx
      exact agb r rfl rfl (hN _ rfl) c1 c2 h1 h2 h4 h5 hp hl k1 k2 hn e1
     ·cases hx
    ·cases hx
   ·cases hx
  ·cases hx
 |ar off mx=>
  cases op<;>simp only[d7] at hc<;>first|cases hc|skip
  simp only[Bool.and_eq_true] at hc
  simp only[exec] at hx
  split at hx
  ·rename_i n k sz q hp
   split at hx
   ·rename_i hn
    injection hx with hx
    subst hx
    exact Yk r rfl hN hc.1 hc.2 (.inl ⟨_,_,_,_,hp,hn,rfl⟩)
   ·cases hx
  ·rename_i xs q hp
   injection hx with hx
   subst hx
   exact Yk r rfl hN hc.1 hc.2 (.inr ⟨_,_,hp,rfl⟩)
  ·cases hx
 |cb sz mx mi=>
  cases op<;>simp only[d7] at hc<;>first|cases hc|skip
  simp only[Bool.and_eq_true] at hc
  obtain⟨⟨c1,c2⟩,c3⟩:=hc
  obtain⟨e,i,z,h1,h2,h3,h4,h5,_⟩:=vW c3
  simp only[exec] at hx
  split at hx
  ·rename_i n s lo len k hp hk
   split at hx
   ·rename_i cM
    obtain⟨rfl,k1,k2,k3⟩:=cM
    injection hx with hx
    subst hx
    exact Yl r rfl hN c1 c2 h1 h2 h4 hk k1 (.inl ⟨_,_,_,hp,k2,k3,rfl⟩)
   ·cases hx
  ·rename_i s xs k hp hk
   split at hx
   ·rename_i cM
    obtain⟨rfl,k1⟩:=cM
    split at hx
    ·rename_i el mr
     injection hx with hx
     subst hx
     exact Yl r rfl hN c1 c2 h1 h2 h4 hk k1 (.inr ⟨_,_,hp,mr,rfl⟩)
    ·cases hx
   ·cases hx
  ·rename_i n kk aA off s len k hp hk
   split at hx
   ·rename_i s' ys PP
    split at hx
    ·rename_i cM
     obtain⟨rfl,k1,k2⟩:=cM
     injection hx with hx
     subst hx
     exact afZ r rfl hN c1 c2 h1 h2 h4 hk k1 k2 hp PP
    ·cases hx
   ·cases hx
  ·cases hx
 |ext i mx=>
  cases op<;>simp only[d7] at hc<;>first|cases hc|skip
  simp only[Bool.and_eq_true,beq_iff_eq] at hc
  obtain⟨rfl,c1⟩:=hc
  simp only[exec] at hx
  split at hx
  ·rename_i xs hp
   split at hx
   ·rename_i ag cs eB
    injection hx with hx
    subst hx
    refine afX r rfl hN c1 hp eB fun br=>?_
    subst br
    obtain⟨y1,_⟩:=r.ev c1
    rw[hp] at y1
    obtain⟨vs,_,hl,hv⟩:=y1
    have hi:i<vs.length:=by rw[hl];exact(List.getElem?_eq_some_iff.1 eB).1
    have:cT w G σ.h cs [vs[i]]:=hv i (false,cs) vs[i] eB (List.getElem?_eq_getElem hi)
    exact List.length_eq_one_iff.1 this.1.symm
   ·cases hx
  ·cases hx
 |pz ag off sz mx=>
  cases op<;>simp only[d7] at hc<;>first|cases hc|skip
  simp only[Bool.and_eq_true] at hc
  simp only[exec] at hx
  split at hx
  ·rename_i cs hp
   split at hx
   ·rename_i l hl
    injection hx with hx
    subst hx
    exact afY r rfl hN hc.1 hc.2 hp hl
   ·cases hx
  ·cases hx
 |oW f bK mx=>
  cases op<;>simp only[d7] at hc<;>first|cases hc|skip
  rename_i c
  obtain⟨cal,args,WW⟩:=c
  simp only at hc
  split at hc
  ·rename_i g x r7
   simp only[Bool.and_eq_true,beq_iff_eq] at hc
   obtain⟨⟨⟨hfg,c1⟩,c2⟩,c3⟩:=hc
   subst hfg
   have ea:args=#[x]:=by apply Array.ext';simpa using r7
   subst ea
   simp only[exec] at hx
   split at hx
   ·rename_i n sz lo len hp
    split at hx
    ·rename_i hs
     injection hx with hx
     subst hx
     exact Nt r hN rfl c1 c2 c3 hp (.inl ⟨n,sz,lo,rfl,hs⟩)
    ·cases hx
   ·rename_i sz xs hp
    injection hx with hx
    subst hx
    exact Nt r hN rfl c1 c2 c3 hp (.inr (.inl ⟨sz,xs,rfl,rfl⟩))
   ·rename_i sz hp
    injection hx with hx
    subst hx
    exact Nt r (len:=0) hN rfl c1 c2 c3 hp (.inr (.inr ⟨sz,rfl,rfl⟩))
   ·cases hx
  ·cases hc
 |len mx=>
  cases op<;>simp only[d7] at hc<;>first|cases hc|skip
  rename_i c
  obtain⟨callee,args,argTypes⟩:=c
  split at hc
  ·rename_i x t bO ha ht
   simp only at bO ha ht
   subst bO
   have uq:args=#[x]:=by apply Array.ext';exact ha
   have yR:argTypes=#[t]:=by apply Array.ext';exact ht
   subst uq yR
   simp only[Bool.and_eq_true] at hc
   obtain⟨c1,c2⟩:=hc
   split at c2
   ·rename_i e hu
    simp only[exec] at hx
    split at hx
    ·rename_i n sz lo len hp
     split at hx
     ·rename_i hn
      injection hx with hx
      subst hx
      exact IZ r rfl hN c1 hu (.inl ⟨_,_,_,hp,hn⟩)
     ·cases hx
    ·rename_i sz xs hp
     injection hx with hx
     subst hx
     exact IZ r rfl hN c1 hu (.inr (.inl ⟨_,_,hp,rfl⟩))
    ·rename_i sz hp
     injection hx with hx
     subst hx
     exact IZ r rfl hN c1 hu (.inr (.inr (.inl ⟨_,hp,rfl⟩)))
    ·rename_i n k aA off sz len hp
     split at hx
     ·rename_i s ys sj
      injection hx with hx
      subst hx
      exact IZ r rfl hN c1 hu (.inr (.inr (.inr ⟨_,_,_,_,_,_,_,_,hp,sj,rfl⟩)))
     ·cases hx
    ·cases hx
   ·cases c2
  ·cases hc
 |append fl sz by_ mx my=>
  cases op<;>simp only[d7] at hc<;>first|cases hc|skip
  rename_i c
  obtain⟨callee,args,argTypes⟩:=c
  split at hc
  ·rename_i x y t t' bO ha ht
   simp only at bO ha ht
   subst bO
   have uq:args=#[x,y]:=by apply Array.ext';exact ha
   have yR:argTypes=#[t,t']:=by apply Array.ext';exact ht
   subst uq yR
   simp only[Bool.and_eq_true,beq_iff_eq] at hc
   obtain⟨⟨⟨rfl,c1⟩,c2⟩,c3⟩:=hc
   obtain⟨e,i,z,h1,h2,h3,h4,h5,h6⟩:=vW c3
   simp only[Bool.and_eq_true,beq_iff_eq,decide_eq_true_eq] at h6
   simp only[exec] at hx
   split at hx
   ·cases hx
   ·rename_i n
    split at hx
    ·cases hx
    ·rename_i xs m σ1 hl
     split at hx
     ·cases hx
     ·rename_i ys m2 σ2 hr
      split at hx
      ·rename_i hb
       split at hx
       ·rename_i gW hi
        injection hx with hx
        subst hx
        exact afF r rfl rfl (hN _ rfl) c1 c2 h1 h2 h3 h4 h5 h6.1.1 h6.1.2 h6.2 hl hr hb hi
       ·cases hx
      ·cases hx
  ·cases hc
 |copy sz mx my=>
  cases op<;>simp only[d7] at hc<;>first|cases hc|skip
  rename_i c
  obtain⟨callee,args,argTypes⟩:=c
  split at hc
  ·rename_i x y t t' bO ha ht
   simp only at bO ha ht
   subst bO
   have uq:args=#[x,y]:=by apply Array.ext';exact ha
   have yR:argTypes=#[t,t']:=by apply Array.ext';exact ht
   subst uq yR
   simp only[Bool.and_eq_true,beq_iff_eq] at hc
   obtain⟨⟨⟨c0,c1⟩,c2⟩,c3⟩:=hc
   obtain⟨e,i,z,h1,h2,h3,h4,h5,_⟩:=vW c3
   simp only[exec] at hx
   split at hx
   ·rename_i n s lo len cc hp hq
    split at hx
    ·rename_i gr m rs xs s' ys hn hv
     split at hx
     ·rename_i cM
      obtain⟨rfl,rfl,rfl,rfl,k1,k2,k3,k4⟩:=cM
      injection hx with hx
      subst hx
      exact afS r rfl hN c1 c2 h1 h2 h4 hp hq hn hv k1 k2 k3 k4
     ·cases hx
    ·cases hx
   ·cases hx
  ·cases hc
 |kV zc mx=>
  cases op<;>simp only[d7] at hc<;>first|cases hc|skip
  rename_i c
  obtain⟨callee,args,argTypes⟩:=c
  split at hc
  ·rename_i x t bO ha ht
   simp only at bO ha ht
   subst bO
   have uq:args=#[x]:=by apply Array.ext';exact ha
   have yR:argTypes=#[t]:=by apply Array.ext';exact ht
   subst uq yR
   simp only[Bool.and_eq_true] at hc
   obtain⟨c1,c3⟩:=hc
   obtain⟨e,i,z,h1,h2,h3,h4,h5,h6⟩:=vW c3
   simp only[exec] at hx
   split at hx
   ·rename_i n s lo len hp
    split at hx
    ·rename_i gr m rs xs hn
     split at hx
     ·rename_i cM
      obtain⟨rfl,rfl,k0,k1,k2,k3⟩:=cM
      injection hx with hx
      subst hx
      exact afQ r rfl hN c1 h1 h2 h3 h6 k0 hp hn k1 k2 k3
     ·cases hx
    ·cases hx
   ·cases hx
  ·cases hc
 |mm b mx my=>
  cases op<;>simp only[d7] at hc<;>first|cases hc|skip
  rename_i c
  obtain⟨callee,args,argTypes⟩:=c
  have ca:∀x y,callee=.builtin (if b=true then .max else .min)->args=#[x,y]->bz x mx=true->bz y my=true->
    Oper.wp P ⟨dst,.call ⟨callee,args,argTypes⟩,ty,pos,after,guard⟩ a w (Nx B E w0 N σ') Q:=by
   intro x y bO ha c1 c2
   subst bO ha
   simp only[exec] at hx
   split at hx
   ·rename_i k n k' m h1 h2
    have:=af3 (P:=P) (Q:=Q) (mx':=b) r (o:=⟨dst,.call ⟨.builtin (if b=true then .max else .min),#[x,y],argTypes⟩,ty,pos,after,guard⟩) rfl hN c1 c2 h1 h2
    cases b
    ·simp at hx this
     split at hx<;>(rename_i bH;injection hx with hx;subst hx;simpa[bH] using this)
    ·simp at hx this
     split at hx<;>(rename_i bH;injection hx with hx;subst hx;simpa[bH] using this)
   ·cases hx
  split at hc
  ·rename_i x y bO ha
   simp only[Bool.and_eq_true] at hc
   obtain⟨⟨rfl,c1⟩,c2⟩:=hc
   exact ca x y bO (by apply Array.ext';exact ha) c1 c2
  ·rename_i x y bO ha
   simp only[Bool.and_eq_true,Bool.not_eq_true'] at hc
   obtain⟨⟨rfl,c1⟩,c2⟩:=hc
   exact ca x y bO (by apply Array.ext';exact ha) c1 c2
  ·cases hc
 |call m f ms=>
  cases op<;>simp only[d7] at hc<;>first|cases hc|skip
  rename_i c
  obtain⟨callee,args,argTypes⟩:=c
  split at hc
  ·rename_i g bO
   simp only at bO
   subst bO
   simp only[Bool.and_eq_true,beq_iff_eq] at hc
   obtain⟨⟨rfl,c1⟩,c2⟩:=hc
   exact afL r hT hN rfl c1 c2 hx
  ·cases hc
 |mP f ms=>
  cases op<;>simp only[d7] at hc<;>first|cases hc|skip
  rename_i c
  obtain⟨callee,args,argTypes⟩:=c
  split at hc
  ·rename_i g bO
   simp only at bO
   subst bO
   simp only[Bool.and_eq_true,beq_iff_eq] at hc
   obtain⟨⟨rfl,c1⟩,c2⟩:=hc
   simp only[exec] at hx
   split at hx
   ·rename_i z hz
    injection hx with hx
    subst hx
    exact afM r hT hN rfl c1 c2 hz
   ·cases hx
  ·cases hc
 |gb m f ms=>
  cases op<;>simp only[d7] at hc<;>first|cases hc|skip
  rename_i c
  obtain⟨callee,args,argTypes⟩:=c
  split at hc
  ·rename_i g bO
   simp only at bO
   subst bO
   simp only[Bool.and_eq_true,beq_iff_eq] at hc
   obtain⟨⟨rfl,c1⟩,c2⟩:=hc
   simp only[exec] at hx
   exact afN r hTM hN rfl c1 c2 hx
  ·cases hc
 |dZ f ms=>exact af4 r Bm hN hc hx
 |mR f ms=>exact af6 r OL hN hc hx
 |lZ f ms=>exact af5 r Bm hN hc hx
 |pU f ms=>
  cases op<;>simp only[d7] at hc<;>first|cases hc|skip
  rename_i fn first xs
  cases fn<;>simp only at hc<;>first|cases hc|skip
  simp only[Bool.and_eq_true,beq_iff_eq] at hc
  obtain⟨⟨⟨rfl,c0⟩,c1⟩,c2⟩:=hc
  have hf0:first=#[]:=by simpa using c0
  subst hf0
  obtain⟨g1,g2⟩:=M5 c2
  simp only[exec] at hx
  split at hx
  ·rename_i cs eB
   split at hx
   ·rename_i hj
    injection hx with hx
    subst hx
    exact af1 r rfl hN ⟨by simpa using g1.symm,g2⟩ eB (fun c hc gx=>by
     have:=List.all_eq_true.1 hj c hc
     subst gx
     simp[ah.Ff] at this)
   ·cases hx
  ·cases hx
 |mQ m mx ms=>
  cases op<;>simp only[d7] at hc<;>first|cases hc|skip
  rename_i c
  obtain⟨callee,args,argTypes⟩:=c
  split at hc
  ·rename_i t bO
   simp only at bO
   subst bO
   simp only[Bool.and_eq_true] at hc
   simp only[exec] at hx
   split at hx
   ·rename_i f cA hp
    have hfk:bD P f=true:=by
     have fM:=hx
     unfold rQ at fM
     split at fM
     ·split at fM
      ·rename_i M hM;exact hF f M hM
      ·cases fM
     ·cases fM
    exact afO r hT hN rfl hfk hc.1 hc.2 hp hx
   ·cases hx
  ·cases hc
end
end Go.Am
