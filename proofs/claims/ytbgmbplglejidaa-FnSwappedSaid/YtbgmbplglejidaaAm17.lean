/- Am17: is an operation of the program what the abstract one says? No condition. -/
import Derived.Test.YtbgmbplglejidaaAmR
import Derived.Test.YtbgmbplglejidaaAmX
set_option linter.unusedVariables false
set_option linter.unusedSimpArgs false
namespace Go.Am
def BE:Option Operand->Option MO->Bool
 |none,none=>true
 |some x,some m=>bF x m
 |_,_=>false
def td (P:Program) (t:TypeId) (sz:Nat) (k:TypeInfo->Value->Bool):Bool:=
 match P.underlying t with
 |some (.slice e)=>match P.info? e with
  |some i=>match i.zero with
   |some z=>i.size==sz&&decide (0<sz)&&k i z
   |none=>false
  |none=>false
 |_=>false
theorem wA {P:Program} {t:TypeId} {sz:Nat} {k:TypeInfo->Value->Bool} (h:td P t sz k=true):
  ∃e i z,P.underlying t=some (.slice e)/\P.info? e=some i/\i.zero=some z/\i.size=sz/\0<sz/\k i z=true:=by
 unfold td at h
 split at h
 ·rename_i e he
  split at h
  ·rename_i i hi
   split at h
   ·rename_i z hz
    simp only[Bool.and_eq_true,beq_iff_eq,decide_eq_true_eq] at h
    exact⟨e,i,z,he,hi,hz,h.1.1,h.1.2,h.2⟩
   ·cases h
  ·cases h
 ·cases h
def Jg (P:Program) (t:TypeId) (zs:List aj):Bool:=
 match P.info? t with
 |some i=>match i.zero with
  |some z=>tc z.cells.toList zs
  |none=>false
 |none=>false
theorem YD {P:Program} {t:TypeId} {zs:List aj} (h:Jg P t zs=true):∃i z,P.info? t=some i/\i.zero=some z/\tc z.cells.toList zs=true:=by
 unfold Jg at h
 split at h
 ·rename_i i hi
  split at h
  ·rename_i z hz;exact⟨i,z,hi,hz,h⟩
  ·cases h
 ·cases h
def Yx (P:Program) (t:TypeId) (parts:List (Nat×Operand)) (zs:List aj) (ms:List (Nat×Nat×MO)):Bool:=
 match P.underlying t with
 |some (.struct oL)=>match oL.toList.mapM (fun f=>(P.info? f.type).map fun i=>(f.offset,i.size)) with
  |some places=>Jg P t zs&&yz places parts ms
  |none=>false
 |_=>false
def YC (P:Program) (t:TypeId) (sz:Nat):Bool:=
 match P.info? t with
 |some i=>i.size==sz&&decide (0<sz)
 |none=>false
def Yz (P:Program) (t u:TypeId) (k:IntKind):Bool:=
 match P.underlying t,P.underlying u with
 |some _,some (.int k')=>k==k'
 |_,_=>false
def abf (P:Program) (t:TypeId):Bool:=
 match P.underlying t with
 |some .bool=>true
 |_=>false
def d7 (P:Program) (o:Oper) (mo:aH):Bool:=
 match mo,o.op with
 |.mv m,.move x=>bF x m
 |.mv m,.assign x=>bF x m
 |.pick c x y,.pick c' x' y'=>bF c' c&&bF x' x&&bF y' y
 |.alloc zs,.alloc e=>Jg P e zs
 |.box sz m,.box e x=>bF x m
 |.build zs ms,.build t parts=>Yx P t parts.toList zs ms
 |.gd sz ms,.buildSlice t len parts=>td P t sz (fun _ _=>true)&&(ms.length==len)&&decide (parts.toList.map (·.1)=List.range len)&&decide (len*sz<=16777216)&&gQ (parts.toList.map (·.2)) ms
 |.load ag sz m,.load t x=>bF x m&&qF P t ag sz
 |.oZ ag sz m,.load t x=>bF x m&&qF P t ag sz
 |.store sz mx my,.store t x y=>o.dst.isNone&&bF x mx&&bF y my&&YC P t sz
 |.gZ m,.nilCheck x=>bF x m
 |.bin op mx my,.binOp xC t x y t'=>decide (op=xC)&&bF x mx&&bF y my
 |.oJ op mx my,.binOp xC t x y t'=>decide (op=xC)&&bF x mx&&bF y my&&abf P t
 |.un op mx,.unOp xC t x=>decide (op=xC)&&bF x mx
 |.conv k mx,.convert t u x=>bF x mx&&Yz P t u k
 |.kF m sz by_ zs ml mc,.makeSlice t l c=>bF l ml&&bF c mc&&td P t sz (fun i z=>(i.bytes==by_)&&decide (0<by_)&&uE z.cells.toList zs)
 |.slice sz mx KI KG,.slice t x lo hi none=>bF x mx&&BE lo KI&&BE hi KG&&td P t sz (fun _ _=>true)
 |.tail sz mx ml,.slice t x (some y) none none=>bF x mx&&bF y ml&&td P t sz (fun _ _=>true)
 |.aw off mx,.fieldAddr s x f=>bF x mx&&Jd P s f off
 |.cf sz mx mi,.indexAddr t x i=>bF x mx&&bF i mi&&td P t sz (fun _ _=>true)
 |.ext i mx,.extract x j=>(i==j)&&bF x mx
 |.pI ag off sz mx,.field s x f=>bF x mx&&Nz P s f off ag sz
 |.pk f bQ mx,.call c=>match c.callee,c.args.toList with
  |.value (.func g),[x]=>(f==g)&&bH P f&&Jf P f bQ&&bF x mx
  |_,_=>false
 |.len mx,.call c=>match c.callee,c.args.toList,c.argTypes.toList with
  |.builtin .len,[x],[t]=>bF x mx&&(match P.underlying t with|some (.slice _)=>true|_=>false)
  |_,_,_=>false
 |.append fl sz by_ mx my,.call c=>match c.callee,c.args.toList,c.argTypes.toList with
  |.builtin .append,[x,y],[t,t']=>(t==t')&&bF x mx&&bF y my&&td P t sz (fun i z=>(i.bytes==by_)&&decide (0<by_)&&(z.cells.size==sz))
  |_,_,_=>false
 |.copy sz mx my,.call c=>match c.callee,c.args.toList,c.argTypes.toList with
  |.builtin .copy,[x,y],[t,t']=>(sz==1)&&bF x mx&&bF y my&&td P t 1 (fun _ _=>true)
  |_,_,_=>false
 |.lE zc mx,.call c=>match c.callee,c.args.toList,c.argTypes.toList with
  |.builtin .clear,[x],[t]=>bF x mx&&td P t 1 (fun _ z=>uE z.cells.toList [zc])
  |_,_,_=>false
 |.mm b mx my,.call c=>match c.callee,c.args.toList with
  |.builtin .max,[x,y]=>b&&bF x mx&&bF y my
  |.builtin .min,[x,y]=> !b&&bF x mx&&bF y my
  |_,_=>false
 |.call m f ms,.call c=>match c.callee with
  |.value (.func g)=>(f==g)&&bH P f&&gQ c.args.toList ms
  |_=>false
 |.mV f ms,.call c=>match c.callee with
  |.value (.func g)=>(f==g)&&bH P f&&gQ c.args.toList ms
  |_=>false
 |.fU m f ms,.call c=>match c.callee with
  |.value (.func g)=>(f==g)&&bH P f&&gQ c.args.toList ms
  |_=>false
 |.dT f ms,.call c=>match c.callee with
  |.value (.func g)=>(f==g)&&bH P f&&gQ c.args.toList ms
  |_=>false
 |.mX f ms,.call c=>match c.callee with
  |.value (.func g)=>(f==g)&&bH P f&&gQ c.args.toList ms
  |_=>false
 |.mz f ms,.call c=>match c.callee with
  |.value (.func g)=>(f==g)&&bH P f&&gQ c.args.toList ms
  |_=>false
 |.qe f ms,.makeFunc (.func g) first xs=>(f==g)&&first.isEmpty&&bH P f&&gQ xs.toList ms
 |.mW m mx ms,.call c=>match c.callee with
  |.value (.tmp t)=>bF (.tmp t) mx&&gQ c.args.toList ms
  |_=>false
 |_,_=>false
theorem NA:∀{xs:List Operand} {ms:List MO},gQ xs ms=true->xs.length=ms.length/\∀(j:Nat) (x:Operand) (m:MO),xs[j]? =some x->ms[j]? =some m->bF x m=true
 |[],[],_=>⟨rfl,by simp⟩
 |x::xs,m::ms,hc=>by
  simp only[gQ,Bool.and_eq_true] at hc
  obtain⟨i1,i2⟩:=NA hc.2
  refine⟨by simp[i1],fun j x' m' hj hm=>?_⟩
  cases j with
  |zero=>simp at hj hm;subst hj;subst hm;exact hc.1
  |succ j=>exact i2 j x' m' (by simpa using hj) (by simpa using hm)
 |[],_::_,hc=>by simp[gQ] at hc
 |_::_,[],hc=>by simp[gQ] at hc
section
variable {B:Nat} {E:Ex} {w0 w w':World} {G G':Gh} {h h':Nat->Option ar} {used used':Nat->Bool} {tk:List PC} {N:Nat}
variable {P:Program} {o:Oper} {a:Act} {σ σ':St} {Q:Exit->Act->World->Prop}
theorem ag0 (r:R B E w0 N σ a w G) {T:aT} (B0:Bo P T) {f:FuncId} {ms:List MO} (hN:∀n,o.dst=some n->n<N) (hc:d7 P o (.mz f ms)=true) (hx:exec T o.dst (.mz f ms) σ=some σ'):o.wp P a w (Nx B E w0 N σ') Q:=by
 obtain⟨dst,op,ty,pos,after,guard⟩:=o
 cases op<;>simp only[d7] at hc<;>first|cases hc|skip
 rename_i c
 obtain⟨callee,args,argTypes⟩:=c
 split at hc
 ·rename_i g bT
  simp only at bT
  subst bT
  simp only[Bool.and_eq_true,beq_iff_eq] at hc
  obtain⟨⟨rfl,c1⟩,c2⟩:=hc
  simp only[exec] at hx
  split at hx
  ·rename_i v0 w9
   injection hx with hx
   subst hx
   exact Zp r B0 hN rfl c1 c2 (agm w9 σ)
  ·cases hx
 ·cases hc
theorem ag1 (r:R B E w0 N σ a w G) {T:aT} (Pg:Ec P T) {f:FuncId} {ms:List MO} (hN:∀n,o.dst=some n->n<N) (hc:d7 P o (.mX f ms)=true) (hx:exec T o.dst (.mX f ms) σ=some σ'):o.wp P a w (Nx B E w0 N σ') Q:=by
 obtain⟨dst,op,ty,pos,after,guard⟩:=o
 cases op<;>simp only[d7] at hc<;>first|cases hc|skip
 rename_i c
 obtain⟨callee,args,argTypes⟩:=c
 split at hc
 ·rename_i g bT
  simp only at bT
  subst bT
  simp only[Bool.and_eq_true,beq_iff_eq] at hc
  obtain⟨⟨rfl,c1⟩,c2⟩:=hc
  simp only[exec] at hx
  split at hx
  ·rename_i v0 w9
   injection hx with hx
   subst hx
   exact agK r Pg hN rfl c1 c2 w9
  ·cases hx
 ·cases hc
theorem agZ (r:R B E w0 N σ a w G) {T:aT} (B0:Bo P T) {f:FuncId} {ms:List MO} (hN:∀n,o.dst=some n->n<N) (hc:d7 P o (.dT f ms)=true) (hx:exec T o.dst (.dT f ms) σ=some σ'):o.wp P a w (Nx B E w0 N σ') Q:=by
 obtain⟨dst,op,ty,pos,after,guard⟩:=o
 cases op<;>simp only[d7] at hc<;>first|cases hc|skip
 rename_i c
 obtain⟨callee,args,argTypes⟩:=c
 split at hc
 ·rename_i g bT
  simp only at bT
  subst bT
  simp only[Bool.and_eq_true,beq_iff_eq] at hc
  obtain⟨⟨rfl,c1⟩,c2⟩:=hc
  simp only[exec] at hx
  exact Zp r B0 hN rfl c1 c2 hx
 ·cases hc
theorem Zw (r:R B E w0 N σ a w G) {T:aT} (hT:yr P T) (hTM:HE P T) (B0:Bo P T) (Pg:Ec P T) (hF:∀f M,aT.find T.pure f=some M->bH P f=true) {mo:aH} (hN:∀n,o.dst=some n->n<N) (hc:d7 P o mo=true) (hx:exec T o.dst mo σ=some σ'):
  o.wp P a w (Nx B E w0 N σ') Q:=by
 obtain⟨dst,op,ty,pos,after,guard⟩:=o
 cases mo with
 |mv m=>
  simp only[exec] at hx
  injection hx with hx
  subst hx
  cases op<;>simp only[d7] at hc<;>first|cases hc|skip
  ·exact Zu r (.inl rfl) hN hc
  ·exact Zu r (.inr rfl) hN hc
 |pick c x y=>
  cases op<;>simp only[d7] at hc<;>first|cases hc|skip
  rename_i c' x' y'
  simp only[Bool.and_eq_true] at hc
  simp only[exec] at hx
  split at hx
  ·rename_i b hb
   have:=ag2 (P:=P) (Q:=Q) r (o:=⟨dst,.pick c' x' y',ty,pos,after,guard⟩) rfl hN hc.1.1 hc.1.2 hc.2 hb
   cases b<;>simp at hx<;>subst hx<;>exact this
  ·cases hx
 |alloc zs=>
  cases op<;>simp only[d7] at hc<;>first|cases hc|skip
  obtain⟨i,z,h1,h2,h3⟩:=YD hc
  simp only[exec] at hx
  split at hx
  ·rename_i n
   split at hx
   ·rename_i σ1 hi
    injection hx with hx
    subst hx
    exact agz r rfl rfl (hN n rfl) h1 h2 h3 hi
   ·cases hx
  ·cases hx
 |box sz m=>
  cases op<;>simp only[d7] at hc<;>first|cases hc|skip
  simp only[exec] at hx
  split at hx
  ·rename_i n ag cs eE
   split at hx
   ·split at hx
    ·rename_i σ1 hi
     injection hx with hx
     subst hx
     exact agD r rfl rfl (hN _ rfl) hc eE hi
    ·cases hx
   ·cases hx
  ·cases hx
 |build zs ms=>
  cases op<;>simp only[d7] at hc<;>first|cases hc|skip
  simp only[exec] at hx
  split at hx
  ·rename_i cs eE
   injection hx with hx
   subst hx
   unfold Yx at hc
   split at hc
   ·rename_i oL hu
    split at hc
    ·rename_i places fY
     simp only[Bool.and_eq_true] at hc
     obtain⟨i,z,h1,h2,h3⟩:=YD hc.1
     exact agF r rfl hN h1 h2 hu fY h3 hc.2 eE
    ·cases hc
   ·cases hc
  ·cases hx
 |gd sz ms=>
  cases op<;>simp only[d7] at hc<;>first|cases hc|skip
  simp only[Bool.and_eq_true,beq_iff_eq,decide_eq_true_eq] at hc
  obtain⟨⟨⟨⟨c1,c2⟩,c3⟩,c4⟩,c5⟩:=hc
  obtain⟨e,i,z,h1,h2,h3,h4,h5,_⟩:=wA c1
  simp only[exec] at hx
  split at hx
  ·rename_i n es ow σ1 Cm
   split at hx
   ·rename_i σ2 hi
    injection hx with hx
    subst hx
    refine agE r rfl rfl (hN _ rfl) h1 h2 h3 h4 h5 c2 c3 c4 (fun j p m hp hm=>?_) Cm hi
    exact(NA c5).2 j p.2 m (by simp[hp]) hm
   ·cases hx
  ·cases hx
 |load ag sz m=>
  cases op<;>simp only[d7] at hc<;>first|cases hc|skip
  simp only[Bool.and_eq_true] at hc
  simp only[exec] at hx
  split at hx
  ·rename_i p hp
   split at hx
   ·rename_i cs eE
    injection hx with hx
    subst hx
    exact Zt r rfl hN hc.1 hc.2 hp eE
   ·cases hx
  ·cases hx
 |oZ ag sz m=>
  cases op<;>simp only[d7] at hc<;>first|cases hc|skip
  simp only[Bool.and_eq_true] at hc
  simp only[exec] at hx
  split at hx
  ·rename_i p hp
   split at hx
   ·rename_i σ1 hf
    split at hx
    ·rename_i cs eE
     injection hx with hx
     subst hx
     exact agV r rfl hN hc.1 hc.2 hp hf eE
    ·cases hx
   ·cases hx
  ·cases hx
 |store sz mx my=>
  cases op<;>simp only[d7] at hc<;>first|cases hc|skip
  simp only[Bool.and_eq_true] at hc
  obtain⟨⟨⟨c0,c1⟩,c2⟩,c3⟩:=hc
  have hd:dst=none:=by simpa using c0
  unfold YC at c3
  split at c3
  ·rename_i i hi
   simp only[Bool.and_eq_true,beq_iff_eq,decide_eq_true_eq] at c3
   simp only[exec] at hx
   split at hx
   ·rename_i n k aE off ag vs hp hv
    split at hx
    ·rename_i hl
     split at hx
     ·rename_i cs hn
      split at hx
      ·rename_i hk
       injection hx with hx
       subst hx
       exact ag3 r rfl hd c1 c2 hi c3.1 c3.2 hp hv hl hn hk.1 hk.2
      ·cases hx
     ·rename_i gr m rs xs hn
      split at hx
      ·rename_i sj
       subst sj
       split at hx
       ·rename_i el nU
        exact ag5 r rfl hd c1 c2 hi c3.1 c3.2 hp hv hl hn nU hx
       ·cases hx
      ·cases hx
     ·cases hx
    ·cases hx
   ·rename_i n k aE off s i ag vs hp hv
    split at hx
    ·rename_i hl
     split at hx
     ·rename_i gr rs xs hn
      split at hx
      ·rename_i sj
       subst sj
       split at hx
       ·rename_i au nY
        injection hx with hx
        subst hx
        exact ag4 r rfl hd c1 c2 hi c3.1 c3.2 hp hv hl hn nY
       ·cases hx
      ·cases hx
     ·cases hx
    ·cases hx
   ·cases hx
  ·cases c3
 |gZ m=>
  cases op<;>simp only[d7] at hc<;>first|cases hc|skip
  simp only[exec] at hx
  split at hx
  ·rename_i n k sz off hp
   split at hx
   ·rename_i hn
    injection hx with hx
    subst hx
    rw[<-hp]
    exact Zv r rfl hN hc (.inl ⟨_,_,_,_,hp,hn⟩)
   ·cases hx
  ·rename_i xs off hp
   injection hx with hx
   subst hx
   rw[<-hp]
   exact Zv r rfl hN hc (.inr ⟨_,_,hp⟩)
  ·cases hx
 |bin xC mx my=>
  cases op<;>simp only[d7] at hc<;>first|cases hc|skip
  simp only[Bool.and_eq_true,decide_eq_true_eq] at hc
  obtain⟨⟨rfl,c1⟩,c2⟩:=hc
  simp only[exec] at hx
  split at hx
  ·rename_i c hb
   injection hx with hx
   subst hx
   exact agB r rfl hN c1 c2 hb
  ·cases hx
 |oJ xC mx my=>
  cases op<;>simp only[d7] at hc<;>first|cases hc|skip
  simp only[Bool.and_eq_true,decide_eq_true_eq] at hc
  obtain⟨⟨⟨rfl,c1⟩,c2⟩,c3⟩:=hc
  unfold abf at c3
  split at c3
  ·rename_i ht
   simp only[exec] at hx
   split at hx
   ·rename_i c hb
    injection hx with hx
    subst hx
    exact agC r rfl hN c1 c2 ht hb
   ·cases hx
  ·cases c3
 |un xC mx=>
  cases op<;>simp only[d7] at hc<;>first|cases hc|skip
  simp only[Bool.and_eq_true,decide_eq_true_eq] at hc
  obtain⟨rfl,c1⟩:=hc
  simp only[exec] at hx
  split at hx
  ·rename_i c hb
   injection hx with hx
   subst hx
   exact ag7 r rfl hN c1 hb
  ·cases hx
 |conv k mx=>
  cases op<;>simp only[d7] at hc<;>first|cases hc|skip
  simp only[Bool.and_eq_true] at hc
  obtain⟨c1,c2⟩:=hc
  unfold Yz at c2
  split at c2
  ·rename_i d k' ht hu
   have hk:k=k':=by simpa using c2
   subst hk
   simp only[exec] at hx
   split at hx
   ·rename_i k2 n hb
    injection hx with hx
    subst hx
    exact agM r rfl hN c1 ht hu hb
   ·cases hx
  ·cases c2
 |kF m sz by_ zs ml mc=>
  cases op<;>simp only[d7] at hc<;>first|cases hc|skip
  simp only[Bool.and_eq_true] at hc
  obtain⟨⟨c1,c2⟩,c3⟩:=hc
  obtain⟨e,i,z,h1,h2,h3,h4,h5,h6⟩:=wA c3
  simp only[Bool.and_eq_true,beq_iff_eq,decide_eq_true_eq] at h6
  simp only[exec] at hx
  split at hx
  ·rename_i n q q' hq d9
   split at hx
   ·rename_i cV
    obtain⟨k1,k2,k3,k4⟩:=cV
    split at hx
    ·rename_i σ1 hi
     injection hx with hx
     subst hx
     exact agX r rfl rfl (hN _ rfl) c1 c2 h1 h2 h3 h4 h6.1.1 h6.1.2 h5 h6.2 hq d9 k1 k2 k3 k4 hi
    ·cases hx
   ·cases hx
  ·cases hx
 |slice sz mx KI KG=>
  cases op<;>simp only[d7] at hc<;>first|cases hc|skip
  rename_i t x lo hi mm
  cases mm<;>simp only[d7] at hc<;>first|cases hc|skip
  simp only[Bool.and_eq_true] at hc
  obtain⟨⟨⟨c1,c2⟩,c3⟩,c4⟩:=hc
  obtain⟨e,i,z,h1,h2,h3,h4,h5,_⟩:=wA c4
  have wX:∀l,(match KI with|none=>some 0|some l=>(σ.ev l).dn)=some l->(lo=none/\l=0)\/∃y my,lo=some y/\bF y my=true/\(σ.ev my).dn=some l:=by
   intro l hl
   cases KI with
   |none=>cases lo<;>simp[BE] at c2;simp at hl;exact .inl ⟨rfl,hl.symm⟩
   |some my=>cases lo<;>simp[BE] at c2;exact .inr ⟨_,my,rfl,c2,hl⟩
  have u5:∀(len:Nat) hh,(match KG with|none=>some (len:Int)|some h=>(σ.ev h).dn)=some hh->(hi=none/\hh=len)\/∃y my,hi=some y/\bF y my=true/\(σ.ev my).dn=some hh:=by
   intro len l hl
   cases KG with
   |none=>cases hi<;>simp[BE] at c3;simp at hl;exact .inl ⟨rfl,hl.symm⟩
   |some my=>cases hi<;>simp[BE] at c3;exact .inr ⟨_,my,rfl,c3,hl⟩
  simp only[exec] at hx
  split at hx
  ·rename_i n s l0 len l hp hl
   split at hx
   ·rename_i hh PI
    split at hx
    ·rename_i cV
     obtain⟨rfl,k1,k2,k3,k4⟩:=cV
     injection hx with hx
     subst hx
     exact Zx r rfl hN c1 h1 h2 h4 h5 (wX l hl) (u5 len hh PI) k1 k2 k3 (.inl ⟨n,l0,hp,k4,rfl⟩)
    ·cases hx
   ·cases hx
  ·rename_i s xs l hp hl
   split at hx
   ·rename_i hh PI
    split at hx
    ·rename_i cV
     obtain⟨rfl,k1,k2,k3⟩:=cV
     injection hx with hx
     subst hx
     exact Zx r rfl hN c1 h1 h2 h4 h5 (wX l hl) (u5 xs.length hh PI) k1 k2 k3 (.inr ⟨xs,hp,rfl,rfl⟩)
    ·cases hx
   ·cases hx
  ·cases hx
 |tail sz mx ml=>
  cases op<;>simp only[d7] at hc<;>first|cases hc|skip
  rename_i t x lo hi mm
  cases mm<;>cases hi<;>cases lo<;>simp only[d7] at hc<;>first|cases hc|skip
  rename_i y
  simp only[Bool.and_eq_true] at hc
  obtain⟨⟨c1,c2⟩,c4⟩:=hc
  obtain⟨e,i,z,h1,h2,h3,h4,h5,_⟩:=wA c4
  simp only[exec] at hx
  split at hx
  ·rename_i n a0 s len l hp hl
   split at hx
   ·rename_i m rs xs hn
    split at hx
    ·rename_i cV
     obtain⟨rfl,rfl,rfl,k1,k2⟩:=cV
     split at hx
     ·rename_i σ1 e1
      injection hx with hx
      subst hx
      exact ag6 r rfl rfl (hN _ rfl) c1 c2 h1 h2 h4 h5 hp hl k1 k2 hn e1
     ·cases hx
    ·cases hx
   ·cases hx
  ·cases hx
 |aw off mx=>
  cases op<;>simp only[d7] at hc<;>first|cases hc|skip
  simp only[Bool.and_eq_true] at hc
  simp only[exec] at hx
  split at hx
  ·rename_i n k sz q hp
   split at hx
   ·rename_i hn
    injection hx with hx
    subst hx
    exact Zr r rfl hN hc.1 hc.2 (.inl ⟨_,_,_,_,hp,hn,rfl⟩)
   ·cases hx
  ·rename_i xs q hp
   injection hx with hx
   subst hx
   exact Zr r rfl hN hc.1 hc.2 (.inr ⟨_,_,hp,rfl⟩)
  ·cases hx
 |cf sz mx mi=>
  cases op<;>simp only[d7] at hc<;>first|cases hc|skip
  simp only[Bool.and_eq_true] at hc
  obtain⟨⟨c1,c2⟩,c3⟩:=hc
  obtain⟨e,i,z,h1,h2,h3,h4,h5,_⟩:=wA c3
  simp only[exec] at hx
  split at hx
  ·rename_i n s lo len k hp hk
   split at hx
   ·rename_i cV
    obtain⟨rfl,k1,k2,k3⟩:=cV
    injection hx with hx
    subst hx
    exact Zs r rfl hN c1 c2 h1 h2 h4 hk k1 (.inl ⟨_,_,_,hp,k2,k3,rfl⟩)
   ·cases hx
  ·rename_i s xs k hp hk
   split at hx
   ·rename_i cV
    obtain⟨rfl,k1⟩:=cV
    split at hx
    ·rename_i el nU
     injection hx with hx
     subst hx
     exact Zs r rfl hN c1 c2 h1 h2 h4 hk k1 (.inr ⟨_,_,hp,nU,rfl⟩)
    ·cases hx
   ·cases hx
  ·rename_i n kk aE off s len k hp hk
   split at hx
   ·rename_i s' ys Qh
    split at hx
    ·rename_i cV
     obtain⟨rfl,k1,k2⟩:=cV
     injection hx with hx
     subst hx
     exact agU r rfl hN c1 c2 h1 h2 h4 hk k1 k2 hp Qh
    ·cases hx
   ·cases hx
  ·cases hx
 |ext i mx=>
  cases op<;>simp only[d7] at hc<;>first|cases hc|skip
  simp only[Bool.and_eq_true,beq_iff_eq] at hc
  obtain⟨rfl,c1⟩:=hc
  simp only[exec] at hx
  split at hx
  ·rename_i xs hp
   split at hx
   ·rename_i ag cs eE
    injection hx with hx
    subst hx
    refine agS r rfl hN c1 hp eE fun bu=>?_
    subst bu
    obtain⟨y1,_⟩:=r.ev c1
    rw[hp] at y1
    obtain⟨vs,_,hl,hv⟩:=y1
    have hi:i<vs.length:=by rw[hl];exact(List.getElem?_eq_some_iff.1 eE).1
    have:cZ w G σ.h cs [vs[i]]:=hv i (false,cs) vs[i] eE (List.getElem?_eq_getElem hi)
    exact List.length_eq_one_iff.1 this.1.symm
   ·cases hx
  ·cases hx
 |pI ag off sz mx=>
  cases op<;>simp only[d7] at hc<;>first|cases hc|skip
  simp only[Bool.and_eq_true] at hc
  simp only[exec] at hx
  split at hx
  ·rename_i cs hp
   split at hx
   ·rename_i l hl
    injection hx with hx
    subst hx
    exact agT r rfl hN hc.1 hc.2 hp hl
   ·cases hx
  ·cases hx
 |pk f bQ mx=>
  cases op<;>simp only[d7] at hc<;>first|cases hc|skip
  rename_i c
  obtain⟨cal,args,X9⟩:=c
  simp only at hc
  split at hc
  ·rename_i g x r9
   simp only[Bool.and_eq_true,beq_iff_eq] at hc
   obtain⟨⟨⟨hfg,c1⟩,c2⟩,c3⟩:=hc
   subst hfg
   have ea:args=#[x]:=by apply Array.ext';simpa using r9
   subst ea
   simp only[exec] at hx
   split at hx
   ·rename_i n sz lo len hp
    split at hx
    ·rename_i hs
     injection hx with hx
     subst hx
     exact NY r hN rfl c1 c2 c3 hp (.inl ⟨n,sz,lo,rfl,hs⟩)
    ·cases hx
   ·rename_i sz xs hp
    injection hx with hx
    subst hx
    exact NY r hN rfl c1 c2 c3 hp (.inr (.inl ⟨sz,xs,rfl,rfl⟩))
   ·rename_i sz hp
    injection hx with hx
    subst hx
    exact NY r (len:=0) hN rfl c1 c2 c3 hp (.inr (.inr ⟨sz,rfl,rfl⟩))
   ·cases hx
  ·cases hc
 |len mx=>
  cases op<;>simp only[d7] at hc<;>first|cases hc|skip
  rename_i c
  obtain⟨callee,args,argTypes⟩:=c
  split at hc
  ·rename_i x t bT ha ht
   simp only at bT ha ht
   subst bT
   have uR:args=#[x]:=by apply Array.ext';exact ha
   have zu:argTypes=#[t]:=by apply Array.ext';exact ht
   subst uR zu
   simp only[Bool.and_eq_true] at hc
   obtain⟨c1,c2⟩:=hc
   split at c2
   ·rename_i e hu
    simp only[exec] at hx
    split at hx
    ·rename_i n sz lo len hp
     split at hx
     ·rename_i hn
      injection hx with hx
      subst hx
      exact JC r rfl hN c1 hu (.inl ⟨_,_,_,hp,hn⟩)
     ·cases hx
    ·rename_i sz xs hp
     injection hx with hx
     subst hx
     exact JC r rfl hN c1 hu (.inr (.inl ⟨_,_,hp,rfl⟩))
    ·rename_i sz hp
     injection hx with hx
     subst hx
     exact JC r rfl hN c1 hu (.inr (.inr (.inl ⟨_,hp,rfl⟩)))
    ·rename_i n k aE off sz len hp
     split at hx
     ·rename_i s ys sq
      injection hx with hx
      subst hx
      exact JC r rfl hN c1 hu (.inr (.inr (.inr ⟨_,_,_,_,_,_,_,_,hp,sq,rfl⟩)))
     ·cases hx
    ·cases hx
   ·cases c2
  ·cases hc
 |append fl sz by_ mx my=>
  cases op<;>simp only[d7] at hc<;>first|cases hc|skip
  rename_i c
  obtain⟨callee,args,argTypes⟩:=c
  split at hc
  ·rename_i x y t t' bT ha ht
   simp only at bT ha ht
   subst bT
   have uR:args=#[x,y]:=by apply Array.ext';exact ha
   have zu:argTypes=#[t,t']:=by apply Array.ext';exact ht
   subst uR zu
   simp only[Bool.and_eq_true,beq_iff_eq] at hc
   obtain⟨⟨⟨rfl,c1⟩,c2⟩,c3⟩:=hc
   obtain⟨e,i,z,h1,h2,h3,h4,h5,h6⟩:=wA c3
   simp only[Bool.and_eq_true,beq_iff_eq,decide_eq_true_eq] at h6
   simp only[exec] at hx
   split at hx
   ·cases hx
   ·rename_i n
    split at hx
    ·cases hx
    ·rename_i xs m σ1 hl
     split at hx
     ·cases hx
     ·rename_i ys m2 σ2 hr
      split at hx
      ·rename_i hb
       split at hx
       ·rename_i g9 hi
        injection hx with hx
        subst hx
        exact agA r rfl rfl (hN _ rfl) c1 c2 h1 h2 h3 h4 h5 h6.1.1 h6.1.2 h6.2 hl hr hb hi
       ·cases hx
      ·cases hx
  ·cases hc
 |copy sz mx my=>
  cases op<;>simp only[d7] at hc<;>first|cases hc|skip
  rename_i c
  obtain⟨callee,args,argTypes⟩:=c
  split at hc
  ·rename_i x y t t' bT ha ht
   simp only at bT ha ht
   subst bT
   have uR:args=#[x,y]:=by apply Array.ext';exact ha
   have zu:argTypes=#[t,t']:=by apply Array.ext';exact ht
   subst uR zu
   simp only[Bool.and_eq_true,beq_iff_eq] at hc
   obtain⟨⟨⟨c0,c1⟩,c2⟩,c3⟩:=hc
   obtain⟨e,i,z,h1,h2,h3,h4,h5,_⟩:=wA c3
   simp only[exec] at hx
   split at hx
   ·rename_i n s lo len cc hp hq
    split at hx
    ·rename_i gr m rs xs s' ys hn hv
     split at hx
     ·rename_i cV
      obtain⟨rfl,rfl,rfl,rfl,k1,k2,k3,k4⟩:=cV
      injection hx with hx
      subst hx
      exact agN r rfl hN c1 c2 h1 h2 h4 hp hq hn hv k1 k2 k3 k4
     ·cases hx
    ·cases hx
   ·cases hx
  ·cases hc
 |lE zc mx=>
  cases op<;>simp only[d7] at hc<;>first|cases hc|skip
  rename_i c
  obtain⟨callee,args,argTypes⟩:=c
  split at hc
  ·rename_i x t bT ha ht
   simp only at bT ha ht
   subst bT
   have uR:args=#[x]:=by apply Array.ext';exact ha
   have zu:argTypes=#[t]:=by apply Array.ext';exact ht
   subst uR zu
   simp only[Bool.and_eq_true] at hc
   obtain⟨c1,c3⟩:=hc
   obtain⟨e,i,z,h1,h2,h3,h4,h5,h6⟩:=wA c3
   simp only[exec] at hx
   split at hx
   ·rename_i n s lo len hp
    split at hx
    ·rename_i gr m rs xs hn
     split at hx
     ·rename_i cV
      obtain⟨rfl,rfl,k0,k1,k2,k3⟩:=cV
      injection hx with hx
      subst hx
      exact agL r rfl hN c1 h1 h2 h3 h6 k0 hp hn k1 k2 k3
     ·cases hx
    ·cases hx
   ·cases hx
  ·cases hc
 |mm b mx my=>
  cases op<;>simp only[d7] at hc<;>first|cases hc|skip
  rename_i c
  obtain⟨callee,args,argTypes⟩:=c
  have bZ:∀x y,callee=.builtin (if b=true then .max else .min)->args=#[x,y]->bF x mx=true->bF y my=true->
    Oper.wp P ⟨dst,.call ⟨callee,args,argTypes⟩,ty,pos,after,guard⟩ a w (Nx B E w0 N σ') Q:=by
   intro x y bT ha c1 c2
   subst bT ha
   simp only[exec] at hx
   split at hx
   ·rename_i k n k' m h1 h2
    have:=agY (P:=P) (Q:=Q) (mx':=b) r (o:=⟨dst,.call ⟨.builtin (if b=true then .max else .min),#[x,y],argTypes⟩,ty,pos,after,guard⟩) rfl hN c1 c2 h1 h2
    cases b
    ·simp at hx this
     split at hx<;>(rename_i bK;injection hx with hx;subst hx;simpa[bK] using this)
    ·simp at hx this
     split at hx<;>(rename_i bK;injection hx with hx;subst hx;simpa[bK] using this)
   ·cases hx
  split at hc
  ·rename_i x y bT ha
   simp only[Bool.and_eq_true] at hc
   obtain⟨⟨rfl,c1⟩,c2⟩:=hc
   exact bZ x y bT (by apply Array.ext';exact ha) c1 c2
  ·rename_i x y bT ha
   simp only[Bool.and_eq_true,Bool.not_eq_true'] at hc
   obtain⟨⟨rfl,c1⟩,c2⟩:=hc
   exact bZ x y bT (by apply Array.ext';exact ha) c1 c2
  ·cases hc
 |call m f ms=>
  cases op<;>simp only[d7] at hc<;>first|cases hc|skip
  rename_i c
  obtain⟨callee,args,argTypes⟩:=c
  split at hc
  ·rename_i g bT
   simp only at bT
   subst bT
   simp only[Bool.and_eq_true,beq_iff_eq] at hc
   obtain⟨⟨rfl,c1⟩,c2⟩:=hc
   exact agG r hT hN rfl c1 c2 hx
  ·cases hc
 |mV f ms=>
  cases op<;>simp only[d7] at hc<;>first|cases hc|skip
  rename_i c
  obtain⟨callee,args,argTypes⟩:=c
  split at hc
  ·rename_i g bT
   simp only at bT
   subst bT
   simp only[Bool.and_eq_true,beq_iff_eq] at hc
   obtain⟨⟨rfl,c1⟩,c2⟩:=hc
   simp only[exec] at hx
   split at hx
   ·rename_i z hz
    injection hx with hx
    subst hx
    exact agH r hT hN rfl c1 c2 hz
   ·cases hx
  ·cases hc
 |fU m f ms=>
  cases op<;>simp only[d7] at hc<;>first|cases hc|skip
  rename_i c
  obtain⟨callee,args,argTypes⟩:=c
  split at hc
  ·rename_i g bT
   simp only at bT
   subst bT
   simp only[Bool.and_eq_true,beq_iff_eq] at hc
   obtain⟨⟨rfl,c1⟩,c2⟩:=hc
   simp only[exec] at hx
   exact agI r hTM hN rfl c1 c2 hx
  ·cases hc
 |dT f ms=>exact agZ r B0 hN hc hx
 |mX f ms=>exact ag1 r Pg hN hc hx
 |mz f ms=>exact ag0 r B0 hN hc hx
 |qe f ms=>
  cases op<;>simp only[d7] at hc<;>first|cases hc|skip
  rename_i fn first xs
  cases fn<;>simp only at hc<;>first|cases hc|skip
  simp only[Bool.and_eq_true,beq_iff_eq] at hc
  obtain⟨⟨⟨rfl,c0⟩,c1⟩,c2⟩:=hc
  have hf0:first=#[]:=by simpa using c0
  subst hf0
  obtain⟨g1,g2⟩:=NA c2
  simp only[exec] at hx
  split at hx
  ·rename_i cs eE
   split at hx
   ·rename_i hj
    injection hx with hx
    subst hx
    exact agW r rfl hN ⟨by simpa using g1.symm,g2⟩ eE (fun c hc gG=>by
     have:=List.all_eq_true.1 hj c hc
     subst gG
     simp[aj.FX] at this)
   ·cases hx
  ·cases hx
 |mW m mx ms=>
  cases op<;>simp only[d7] at hc<;>first|cases hc|skip
  rename_i c
  obtain⟨callee,args,argTypes⟩:=c
  split at hc
  ·rename_i t bT
   simp only at bT
   subst bT
   simp only[Bool.and_eq_true] at hc
   simp only[exec] at hx
   split at hx
   ·rename_i f cF hp
    have hfk:bH P f=true:=by
     have f7:=hx
     unfold rT at f7
     split at f7
     ·split at f7
      ·rename_i M hM;exact hF f M hM
      ·cases f7
     ·cases f7
    exact agJ r hT hN rfl hfk hc.1 hc.2 hp hx
   ·cases hx
  ·cases hc
end
end Go.Am
