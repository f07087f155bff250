/- Am17: is an operation of the program what the abstract one says? No condition. -/
import Derived.Test.YtbgmbplglejidaaAmR
import Derived.Test.YtbgmbplglejidaaAmX
set_option linter.unusedVariables false
set_option linter.unusedSimpArgs false
namespace Go.Am
def Aq:Option Operand->Option MO->Bool
 |none,none=>true
 |some x,some m=>bB x m
 |_,_=>false
def sr (P:Program) (t:TypeId) (sz:Nat) (k:TypeInfo->Value->Bool):Bool:=
 match P.underlying t with
 |some (.slice e)=>match P.info? e with
  |some i=>match i.zero with
   |some z=>i.size==sz&&decide (0<sz)&&k i z
   |none=>false
  |none=>false
 |_=>false
theorem vH {P:Program} {t:TypeId} {sz:Nat} {k:TypeInfo->Value->Bool} (h:sr P t sz k=true):
  ∃e i z,P.underlying t=some (.slice e)/\P.info? e=some i/\i.zero=some z/\i.size=sz/\0<sz/\k i z=true:=by
 unfold sr at h
 split at h
 ·rename_i e he
  split at h
  ·rename_i i hi
   split at h
   ·rename_i z hz
    simp only[Bool.and_eq_true,beq_iff_eq,decide_eq_true_eq] at h
    exact⟨e,i,z,he,hi,hz,h.1.1,h.1.2,h.2⟩
   ·cases h
  ·cases h
 ·cases h
def HL (P:Program) (t:TypeId) (zs:List ah):Bool:=
 match P.info? t with
 |some i=>match i.zero with
  |some z=>sq z.cells.toList zs
  |none=>false
 |none=>false
theorem WK {P:Program} {t:TypeId} {zs:List ah} (h:HL P t zs=true):∃i z,P.info? t=some i/\i.zero=some z/\sq z.cells.toList zs=true:=by
 unfold HL at h
 split at h
 ·rename_i i hi
  split at h
  ·rename_i z hz;exact⟨i,z,hi,hz,h⟩
  ·cases h
 ·cases h
def WD (P:Program) (t:TypeId) (parts:List (Nat×Operand)) (zs:List ah) (ms:List (Nat×Nat×MO)):Bool:=
 match P.underlying t with
 |some (.struct nQ)=>match nQ.toList.mapM (fun f=>(P.info? f.type).map fun i=>(f.offset,i.size)) with
  |some places=>HL P t zs&&xK places parts ms
  |none=>false
 |_=>false
def WJ (P:Program) (t:TypeId) (sz:Nat):Bool:=
 match P.info? t with
 |some i=>i.size==sz&&decide (0<sz)
 |none=>false
def WG (P:Program) (t u:TypeId) (k:IntKind):Bool:=
 match P.underlying t,P.underlying u with
 |some _,some (.int k')=>k==k'
 |_,_=>false
def ZF (P:Program) (t:TypeId):Bool:=
 match P.underlying t with
 |some .bool=>true
 |_=>false
def dW (P:Program) (o:Oper) (mo:aE):Bool:=
 match mo,o.op with
 |.mv m,.move x=>bB x m
 |.mv m,.assign x=>bB x m
 |.pick c x y,.pick c' x' y'=>bB c' c&&bB x' x&&bB y' y
 |.alloc zs,.alloc e=>HL P e zs
 |.box sz m,.box e x=>bB x m
 |.build zs ms,.build t parts=>WD P t parts.toList zs ms
 |.fI sz ms,.buildSlice t len parts=>sr P t sz (fun _ _=>true)&&(ms.length==len)&&decide (parts.toList.map (·.1)=List.range len)&&decide (len*sz<=16777216)&&gw (parts.toList.map (·.2)) ms
 |.load ag sz m,.load t x=>bB x m&&pR P t ag sz
 |.mQ ag sz m,.load t x=>bB x m&&pR P t ag sz
 |.store sz mx my,.store t x y=>o.dst.isNone&&bB x mx&&bB y my&&WJ P t sz
 |.gE m,.nilCheck x=>bB x m
 |.bin op mx my,.binOp wM t x y t'=>decide (op=wM)&&bB x mx&&bB y my
 |.oF op mx my,.binOp wM t x y t'=>decide (op=wM)&&bB x mx&&bB y my&&ZF P t
 |.un op mx,.unOp wM t x=>decide (op=wM)&&bB x mx
 |.conv k mx,.convert t u x=>bB x mx&&WG P t u k
 |.jF m sz by_ zs ml mc,.makeSlice t l c=>bB l ml&&bB c mc&&sr P t sz (fun i z=>(i.bytes==by_)&&decide (0<by_)&&tH z.cells.toList zs)
 |.slice sz mx Jo Jm,.slice t x lo hi none=>bB x mx&&Aq lo Jo&&Aq hi Jm&&sr P t sz (fun _ _=>true)
 |.tail sz mx ml,.slice t x (some y) none none=>bB x mx&&bB y ml&&sr P t sz (fun _ _=>true)
 |.aF off mx,.fieldAddr s x f=>bB x mx&&HI P s f off
 |.bX sz mx mi,.indexAddr t x i=>bB x mx&&bB i mi&&sr P t sz (fun _ _=>true)
 |.ext i mx,.extract x j=>(i==j)&&bB x mx
 |.oM ag off sz mx,.field s x f=>bB x mx&&Mb P s f off ag sz
 |.ou f bH mx,.call c=>match c.callee,c.args.toList with
  |.value (.func g),[x]=>(f==g)&&bC P f&&HK P f bH&&bB x mx
  |_,_=>false
 |.len mx,.call c=>match c.callee,c.args.toList,c.argTypes.toList with
  |.builtin .len,[x],[t]=>bB x mx&&(match P.underlying t with|some (.slice _)=>true|_=>false)
  |_,_,_=>false
 |.append fl sz by_ mx my,.call c=>match c.callee,c.args.toList,c.argTypes.toList with
  |.builtin .append,[x,y],[t,t']=>(t==t')&&bB x mx&&bB y my&&sr P t sz (fun i z=>(i.bytes==by_)&&decide (0<by_)&&(z.cells.size==sz))
  |_,_,_=>false
 |.copy sz mx my,.call c=>match c.callee,c.args.toList,c.argTypes.toList with
  |.builtin .copy,[x,y],[t,t']=>(sz==1)&&bB x mx&&bB y my&&sr P t 1 (fun _ _=>true)
  |_,_,_=>false
 |.kB zc mx,.call c=>match c.callee,c.args.toList,c.argTypes.toList with
  |.builtin .clear,[x],[t]=>bB x mx&&sr P t 1 (fun _ z=>tH z.cells.toList [zc])
  |_,_,_=>false
 |.mm b mx my,.call c=>match c.callee,c.args.toList with
  |.builtin .max,[x,y]=>b&&bB x mx&&bB y my
  |.builtin .min,[x,y]=> !b&&bB x mx&&bB y my
  |_,_=>false
 |.call m f ms,.call c=>match c.callee with
  |.value (.func g)=>(f==g)&&bC P f&&gw c.args.toList ms
  |_=>false
 |.mh f ms,.call c=>match c.callee with
  |.value (.func g)=>(f==g)&&bC P f&&gw c.args.toList ms
  |_=>false
 |.gd m f ms,.call c=>match c.callee with
  |.value (.func g)=>(f==g)&&bC P f&&gw c.args.toList ms
  |_=>false
 |.du f ms,.call c=>match c.callee with
  |.value (.func g)=>(f==g)&&bC P f&&gw c.args.toList ms
  |_=>false
 |.mq f ms,.call c=>match c.callee with
  |.value (.func g)=>(f==g)&&bC P f&&gw c.args.toList ms
  |_=>false
 |.lv f ms,.call c=>match c.callee with
  |.value (.func g)=>(f==g)&&bC P f&&gw c.args.toList ms
  |_=>false
 |.pq f ms,.makeFunc (.func g) first xs=>(f==g)&&first.isEmpty&&bC P f&&gw xs.toList ms
 |.mn m mx ms,.call c=>match c.callee with
  |.value (.tmp t)=>bB (.tmp t) mx&&gw c.args.toList ms
  |_=>false
 |_,_=>false
theorem Mc:∀{xs:List Operand} {ms:List MO},gw xs ms=true->xs.length=ms.length/\∀(j:Nat) (x:Operand) (m:MO),xs[j]? =some x->ms[j]? =some m->bB x m=true
 |[],[],_=>⟨rfl,by simp⟩
 |x::xs,m::ms,hc=>by
  simp only[gw,Bool.and_eq_true] at hc
  obtain⟨i1,i2⟩:=Mc hc.2
  refine⟨by simp[i1],fun j x' m' hj hm=>?_⟩
  cases j with
  |zero=>simp at hj hm;subst hj;subst hm;exact hc.1
  |succ j=>exact i2 j x' m' (by simpa using hj) (by simpa using hm)
 |[],_::_,hc=>by simp[gw] at hc
 |_::_,[],hc=>by simp[gw] at hc
section
variable {B:Nat} {E:Ex} {w0 w w':World} {G G':Gh} {h h':Nat->Option ao} {used used':Nat->Bool} {tk:List PC} {N:Nat}
variable {P:Program} {o:Oper} {a:Act} {σ σ':St} {Q:Exit->Act->World->Prop}
theorem afj (r:R B E w0 N σ a w G) {T:aO} (AQ:z8 P T) {f:FuncId} {ms:List MO} (hN:∀n,o.dst=some n->n<N) (hc:dW P o (.lv f ms)=true) (hx:exec T o.dst (.lv f ms) σ=some σ'):o.wp P a w (Nx B E w0 N σ') Q:=by
 obtain⟨dst,op,ty,pos,after,guard⟩:=o
 cases op<;>simp only[dW] at hc<;>first|cases hc|skip
 rename_i c
 obtain⟨callee,args,argTypes⟩:=c
 split at hc
 ·rename_i g bL
  simp only at bL
  subst bL
  simp only[Bool.and_eq_true,beq_iff_eq] at hc
  obtain⟨⟨rfl,c1⟩,c2⟩:=hc
  simp only[exec] at hx
  split at hx
  ·rename_i v0 wj
   injection hx with hx
   subst hx
   exact Xx r AQ hN rfl c1 c2 (aeC wj σ)
  ·cases hx
 ·cases hc
theorem afk (r:R B E w0 N σ a w G) {T:aO} (NS:CQ P T) {f:FuncId} {ms:List MO} (hN:∀n,o.dst=some n->n<N) (hc:dW P o (.mq f ms)=true) (hx:exec T o.dst (.mq f ms) σ=some σ'):o.wp P a w (Nx B E w0 N σ') Q:=by
 obtain⟨dst,op,ty,pos,after,guard⟩:=o
 cases op<;>simp only[dW] at hc<;>first|cases hc|skip
 rename_i c
 obtain⟨callee,args,argTypes⟩:=c
 split at hc
 ·rename_i g bL
  simp only at bL
  subst bL
  simp only[Bool.and_eq_true,beq_iff_eq] at hc
  obtain⟨⟨rfl,c1⟩,c2⟩:=hc
  simp only[exec] at hx
  split at hx
  ·rename_i v0 wj
   injection hx with hx
   subst hx
   exact ae3 r NS hN rfl c1 c2 wj
  ·cases hx
 ·cases hc
theorem afi (r:R B E w0 N σ a w G) {T:aO} (AQ:z8 P T) {f:FuncId} {ms:List MO} (hN:∀n,o.dst=some n->n<N) (hc:dW P o (.du f ms)=true) (hx:exec T o.dst (.du f ms) σ=some σ'):o.wp P a w (Nx B E w0 N σ') Q:=by
 obtain⟨dst,op,ty,pos,after,guard⟩:=o
 cases op<;>simp only[dW] at hc<;>first|cases hc|skip
 rename_i c
 obtain⟨callee,args,argTypes⟩:=c
 split at hc
 ·rename_i g bL
  simp only at bL
  subst bL
  simp only[Bool.and_eq_true,beq_iff_eq] at hc
  obtain⟨⟨rfl,c1⟩,c2⟩:=hc
  simp only[exec] at hx
  exact Xx r AQ hN rfl c1 c2 hx
 ·cases hc
theorem XE (r:R B E w0 N σ a w G) {T:aO} (hT:xE P T) (hTM:Gb P T) (AQ:z8 P T) (NS:CQ P T) (hF:∀f M,aO.find T.pure f=some M->bC P f=true) {mo:aE} (hN:∀n,o.dst=some n->n<N) (hc:dW P o mo=true) (hx:exec T o.dst mo σ=some σ'):
  o.wp P a w (Nx B E w0 N σ') Q:=by
 obtain⟨dst,op,ty,pos,after,guard⟩:=o
 cases mo with
 |mv m=>
  simp only[exec] at hx
  injection hx with hx
  subst hx
  cases op<;>simp only[dW] at hc<;>first|cases hc|skip
  ·exact XC r (.inl rfl) hN hc
  ·exact XC r (.inr rfl) hN hc
 |pick c x y=>
  cases op<;>simp only[dW] at hc<;>first|cases hc|skip
  rename_i c' x' y'
  simp only[Bool.and_eq_true] at hc
  simp only[exec] at hx
  split at hx
  ·rename_i b hb
   have:=afl (P:=P) (Q:=Q) r (o:=⟨dst,.pick c' x' y',ty,pos,after,guard⟩) rfl hN hc.1.1 hc.1.2 hc.2 hb
   cases b<;>simp at hx<;>subst hx<;>exact this
  ·cases hx
 |alloc zs=>
  cases op<;>simp only[dW] at hc<;>first|cases hc|skip
  obtain⟨i,z,h1,h2,h3⟩:=WK hc
  simp only[exec] at hx
  split at hx
  ·rename_i n
   split at hx
   ·rename_i σ1 hi
    injection hx with hx
    subst hx
    exact aeS r rfl rfl (hN n rfl) h1 h2 h3 hi
   ·cases hx
  ·cases hx
 |box sz m=>
  cases op<;>simp only[dW] at hc<;>first|cases hc|skip
  simp only[exec] at hx
  split at hx
  ·rename_i n ag cs ez
   split at hx
   ·split at hx
    ·rename_i σ1 hi
     injection hx with hx
     subst hx
     exact aeW r rfl rfl (hN _ rfl) hc ez hi
    ·cases hx
   ·cases hx
  ·cases hx
 |build zs ms=>
  cases op<;>simp only[dW] at hc<;>first|cases hc|skip
  simp only[exec] at hx
  split at hx
  ·rename_i cs ez
   injection hx with hx
   subst hx
   unfold WD at hc
   split at hc
   ·rename_i nQ hu
    split at hc
    ·rename_i places fK
     simp only[Bool.and_eq_true] at hc
     obtain⟨i,z,h1,h2,h3⟩:=WK hc.1
     exact aeY r rfl hN h1 h2 hu fK h3 hc.2 ez
    ·cases hc
   ·cases hc
  ·cases hx
 |fI sz ms=>
  cases op<;>simp only[dW] at hc<;>first|cases hc|skip
  simp only[Bool.and_eq_true,beq_iff_eq,decide_eq_true_eq] at hc
  obtain⟨⟨⟨⟨c1,c2⟩,c3⟩,c4⟩,c5⟩:=hc
  obtain⟨e,i,z,h1,h2,h3,h4,h5,_⟩:=vH c1
  simp only[exec] at hx
  split at hx
  ·rename_i n es ow σ1 wh
   split at hx
   ·rename_i σ2 hi
    injection hx with hx
    subst hx
    refine aeX r rfl rfl (hN _ rfl) h1 h2 h3 h4 h5 c2 c3 c4 (fun j p m hp hm=>?_) wh hi
    exact(Mc c5).2 j p.2 m (by simp[hp]) hm
   ·cases hx
  ·cases hx
 |load ag sz m=>
  cases op<;>simp only[dW] at hc<;>first|cases hc|skip
  simp only[Bool.and_eq_true] at hc
  simp only[exec] at hx
  split at hx
  ·rename_i p hp
   split at hx
   ·rename_i cs ez
    injection hx with hx
    subst hx
    exact XB r rfl hN hc.1 hc.2 hp ez
   ·cases hx
  ·cases hx
 |mQ ag sz m=>
  cases op<;>simp only[dW] at hc<;>first|cases hc|skip
  simp only[Bool.and_eq_true] at hc
  simp only[exec] at hx
  split at hx
  ·rename_i p hp
   split at hx
   ·rename_i σ1 hf
    split at hx
    ·rename_i cs ez
     injection hx with hx
     subst hx
     exact afe r rfl hN hc.1 hc.2 hp hf ez
    ·cases hx
   ·cases hx
  ·cases hx
 |store sz mx my=>
  cases op<;>simp only[dW] at hc<;>first|cases hc|skip
  simp only[Bool.and_eq_true] at hc
  obtain⟨⟨⟨c0,c1⟩,c2⟩,c3⟩:=hc
  have hd:dst=none:=by simpa using c0
  unfold WJ at c3
  split at c3
  ·rename_i i hi
   simp only[Bool.and_eq_true,beq_iff_eq,decide_eq_true_eq] at c3
   simp only[exec] at hx
   split at hx
   ·rename_i n k az off ag vs hp hv
    split at hx
    ·rename_i hl
     split at hx
     ·rename_i cs hn
      split at hx
      ·rename_i hk
       injection hx with hx
       subst hx
       exact afm r rfl hd c1 c2 hi c3.1 c3.2 hp hv hl hn hk.1 hk.2
      ·cases hx
     ·rename_i gr m rs xs hn
      split at hx
      ·rename_i rB
       subst rB
       split at hx
       ·rename_i el lF
        exact afo r rfl hd c1 c2 hi c3.1 c3.2 hp hv hl hn lF hx
       ·cases hx
      ·cases hx
     ·cases hx
    ·cases hx
   ·rename_i n k az off s i ag vs hp hv
    split at hx
    ·rename_i hl
     split at hx
     ·rename_i gr rs xs hn
      split at hx
      ·rename_i rB
       subst rB
       split at hx
       ·rename_i aq ed
        injection hx with hx
        subst hx
        exact afn r rfl hd c1 c2 hi c3.1 c3.2 hp hv hl hn ed
       ·cases hx
      ·cases hx
     ·cases hx
    ·cases hx
   ·cases hx
  ·cases c3
 |gE m=>
  cases op<;>simp only[dW] at hc<;>first|cases hc|skip
  simp only[exec] at hx
  split at hx
  ·rename_i n k sz off hp
   split at hx
   ·rename_i hn
    injection hx with hx
    subst hx
    rw[<-hp]
    exact XD r rfl hN hc (.inl ⟨_,_,_,_,hp,hn⟩)
   ·cases hx
  ·rename_i xs off hp
   injection hx with hx
   subst hx
   rw[<-hp]
   exact XD r rfl hN hc (.inr ⟨_,_,hp⟩)
  ·cases hx
 |bin wM mx my=>
  cases op<;>simp only[dW] at hc<;>first|cases hc|skip
  simp only[Bool.and_eq_true,decide_eq_true_eq] at hc
  obtain⟨⟨rfl,c1⟩,c2⟩:=hc
  simp only[exec] at hx
  split at hx
  ·rename_i c hb
   injection hx with hx
   subst hx
   exact aeU r rfl hN c1 c2 hb
  ·cases hx
 |oF wM mx my=>
  cases op<;>simp only[dW] at hc<;>first|cases hc|skip
  simp only[Bool.and_eq_true,decide_eq_true_eq] at hc
  obtain⟨⟨⟨rfl,c1⟩,c2⟩,c3⟩:=hc
  unfold ZF at c3
  split at c3
  ·rename_i ht
   simp only[exec] at hx
   split at hx
   ·rename_i c hb
    injection hx with hx
    subst hx
    exact aeV r rfl hN c1 c2 ht hb
   ·cases hx
  ·cases c3
 |un wM mx=>
  cases op<;>simp only[dW] at hc<;>first|cases hc|skip
  simp only[Bool.and_eq_true,decide_eq_true_eq] at hc
  obtain⟨rfl,c1⟩:=hc
  simp only[exec] at hx
  split at hx
  ·rename_i c hb
   injection hx with hx
   subst hx
   exact afq r rfl hN c1 hb
  ·cases hx
 |conv k mx=>
  cases op<;>simp only[dW] at hc<;>first|cases hc|skip
  simp only[Bool.and_eq_true] at hc
  obtain⟨c1,c2⟩:=hc
  unfold WG at c2
  split at c2
  ·rename_i d k' ht hu
   have hk:k=k':=by simpa using c2
   subst hk
   simp only[exec] at hx
   split at hx
   ·rename_i k2 n hb
    injection hx with hx
    subst hx
    exact ae5 r rfl hN c1 ht hu hb
   ·cases hx
  ·cases c2
 |jF m sz by_ zs ml mc=>
  cases op<;>simp only[dW] at hc<;>first|cases hc|skip
  simp only[Bool.and_eq_true] at hc
  obtain⟨⟨c1,c2⟩,c3⟩:=hc
  obtain⟨e,i,z,h1,h2,h3,h4,h5,h6⟩:=vH c3
  simp only[Bool.and_eq_true,beq_iff_eq,decide_eq_true_eq] at h6
  simp only[exec] at hx
  split at hx
  ·rename_i n q q' hq eA
   split at hx
   ·rename_i cI
    obtain⟨k1,k2,k3,k4⟩:=cI
    split at hx
    ·rename_i σ1 hi
     injection hx with hx
     subst hx
     exact afg r rfl rfl (hN _ rfl) c1 c2 h1 h2 h3 h4 h6.1.1 h6.1.2 h5 h6.2 hq eA k1 k2 k3 k4 hi
    ·cases hx
   ·cases hx
  ·cases hx
 |slice sz mx Jo Jm=>
  cases op<;>simp only[dW] at hc<;>first|cases hc|skip
  rename_i t x lo hi mm
  cases mm<;>simp only[dW] at hc<;>first|cases hc|skip
  simp only[Bool.and_eq_true] at hc
  obtain⟨⟨⟨c1,c2⟩,c3⟩,c4⟩:=hc
  obtain⟨e,i,z,h1,h2,h3,h4,h5,_⟩:=vH c4
  have v7:∀l,(match Jo with|none=>some 0|some l=>(σ.ev l).df)=some l->(lo=none/\l=0)\/∃y my,lo=some y/\bB y my=true/\(σ.ev my).df=some l:=by
   intro l hl
   cases Jo with
   |none=>cases lo<;>simp[Aq] at c2;simp at hl;exact .inl ⟨rfl,hl.symm⟩
   |some my=>cases lo<;>simp[Aq] at c2;exact .inr ⟨_,my,rfl,c2,hl⟩
  have ug:∀(len:Nat) hh,(match Jm with|none=>some (len:Int)|some h=>(σ.ev h).df)=some hh->(hi=none/\hh=len)\/∃y my,hi=some y/\bB y my=true/\(σ.ev my).df=some hh:=by
   intro len l hl
   cases Jm with
   |none=>cases hi<;>simp[Aq] at c3;simp at hl;exact .inl ⟨rfl,hl.symm⟩
   |some my=>cases hi<;>simp[Aq] at c3;exact .inr ⟨_,my,rfl,c3,hl⟩
  simp only[exec] at hx
  split at hx
  ·rename_i n s l0 len l hp hl
   split at hx
   ·rename_i hh Of
    split at hx
    ·rename_i cI
     obtain⟨rfl,k1,k2,k3,k4⟩:=cI
     injection hx with hx
     subst hx
     exact XF r rfl hN c1 h1 h2 h4 h5 (v7 l hl) (ug len hh Of) k1 k2 k3 (.inl ⟨n,l0,hp,k4,rfl⟩)
    ·cases hx
   ·cases hx
  ·rename_i s xs l hp hl
   split at hx
   ·rename_i hh Of
    split at hx
    ·rename_i cI
     obtain⟨rfl,k1,k2,k3⟩:=cI
     injection hx with hx
     subst hx
     exact XF r rfl hN c1 h1 h2 h4 h5 (v7 l hl) (ug xs.length hh Of) k1 k2 k3 (.inr ⟨xs,hp,rfl,rfl⟩)
    ·cases hx
   ·cases hx
  ·cases hx
 |tail sz mx ml=>
  cases op<;>simp only[dW] at hc<;>first|cases hc|skip
  rename_i t x lo hi mm
  cases mm<;>cases hi<;>cases lo<;>simp only[dW] at hc<;>first|cases hc|skip
  rename_i y
  simp only[Bool.and_eq_true] at hc
  obtain⟨⟨c1,c2⟩,c4⟩:=hc
  obtain⟨e,i,z,h1,h2,h3,h4,h5,_⟩:=vH c4
  simp only[exec] at hx
  split at hx
  ·rename_i n a0 s len l hp hl
   split at hx
   ·rename_i m rs xs hn
    split at hx
    ·rename_i cI
     obtain⟨rfl,rfl,rfl,k1,k2⟩:=cI
     split at hx
     ·rename_i σ1 e1
      injection hx with hx
      subst hx
      exact afp r rfl rfl (hN _ rfl) c1 c2 h1 h2 h4 h5 hp hl k1 k2 hn e1
     ·cases hx
    ·cases hx
   ·cases hx
  ·cases hx
 |aF off mx=>
  cases op<;>simp only[dW] at hc<;>first|cases hc|skip
  simp only[Bool.and_eq_true] at hc
  simp only[exec] at hx
  split at hx
  ·rename_i n k sz q hp
   split at hx
   ·rename_i hn
    injection hx with hx
    subst hx
    exact Xz r rfl hN hc.1 hc.2 (.inl ⟨_,_,_,_,hp,hn,rfl⟩)
   ·cases hx
  ·rename_i xs q hp
   injection hx with hx
   subst hx
   exact Xz r rfl hN hc.1 hc.2 (.inr ⟨_,_,hp,rfl⟩)
  ·cases hx
 |bX sz mx mi=>
  cases op<;>simp only[dW] at hc<;>first|cases hc|skip
  simp only[Bool.and_eq_true] at hc
  obtain⟨⟨c1,c2⟩,c3⟩:=hc
  obtain⟨e,i,z,h1,h2,h3,h4,h5,_⟩:=vH c3
  simp only[exec] at hx
  split at hx
  ·rename_i n s lo len k hp hk
   split at hx
   ·rename_i cI
    obtain⟨rfl,k1,k2,k3⟩:=cI
    injection hx with hx
    subst hx
    exact XA r rfl hN c1 c2 h1 h2 h4 hk k1 (.inl ⟨_,_,_,hp,k2,k3,rfl⟩)
   ·cases hx
  ·rename_i s xs k hp hk
   split at hx
   ·rename_i cI
    obtain⟨rfl,k1⟩:=cI
    split at hx
    ·rename_i el lF
     injection hx with hx
     subst hx
     exact XA r rfl hN c1 c2 h1 h2 h4 hk k1 (.inr ⟨_,_,hp,lF,rfl⟩)
    ·cases hx
   ·cases hx
  ·rename_i n kk az off s len k hp hk
   split at hx
   ·rename_i s' ys OT
    split at hx
    ·rename_i cI
     obtain⟨rfl,k1,k2⟩:=cI
     injection hx with hx
     subst hx
     exact afd r rfl hN c1 c2 h1 h2 h4 hk k1 k2 hp OT
    ·cases hx
   ·cases hx
  ·cases hx
 |ext i mx=>
  cases op<;>simp only[dW] at hc<;>first|cases hc|skip
  simp only[Bool.and_eq_true,beq_iff_eq] at hc
  obtain⟨rfl,c1⟩:=hc
  simp only[exec] at hx
  split at hx
  ·rename_i xs hp
   split at hx
   ·rename_i ag cs ez
    injection hx with hx
    subst hx
    refine afb r rfl hN c1 hp ez fun bo=>?_
    subst bo
    obtain⟨y1,_⟩:=r.ev c1
    rw[hp] at y1
    obtain⟨vs,_,hl,hv⟩:=y1
    have hi:i<vs.length:=by rw[hl];exact(List.getElem?_eq_some_iff.1 ez).1
    have:cN w G σ.h cs [vs[i]]:=hv i (false,cs) vs[i] ez (List.getElem?_eq_getElem hi)
    exact List.length_eq_one_iff.1 this.1.symm
   ·cases hx
  ·cases hx
 |oM ag off sz mx=>
  cases op<;>simp only[dW] at hc<;>first|cases hc|skip
  simp only[Bool.and_eq_true] at hc
  simp only[exec] at hx
  split at hx
  ·rename_i cs hp
   split at hx
   ·rename_i l hl
    injection hx with hx
    subst hx
    exact afc r rfl hN hc.1 hc.2 hp hl
   ·cases hx
  ·cases hx
 |ou f bH mx=>
  cases op<;>simp only[dW] at hc<;>first|cases hc|skip
  rename_i c
  obtain⟨cal,args,Wc⟩:=c
  simp only at hc
  split at hc
  ·rename_i g x ru
   simp only[Bool.and_eq_true,beq_iff_eq] at hc
   obtain⟨⟨⟨hfg,c1⟩,c2⟩,c3⟩:=hc
   subst hfg
   have ea:args=#[x]:=by apply Array.ext';simpa using ru
   subst ea
   simp only[exec] at hx
   split at hx
   ·rename_i n sz lo len hp
    split at hx
    ·rename_i hs
     injection hx with hx
     subst hx
     exact My r hN rfl c1 c2 c3 hp (.inl ⟨n,sz,lo,rfl,hs⟩)
    ·cases hx
   ·rename_i sz xs hp
    injection hx with hx
    subst hx
    exact My r hN rfl c1 c2 c3 hp (.inr (.inl ⟨sz,xs,rfl,rfl⟩))
   ·rename_i sz hp
    injection hx with hx
    subst hx
    exact My r (len:=0) hN rfl c1 c2 c3 hp (.inr (.inr ⟨sz,rfl,rfl⟩))
   ·cases hx
  ·cases hc
 |len mx=>
  cases op<;>simp only[dW] at hc<;>first|cases hc|skip
  rename_i c
  obtain⟨callee,args,argTypes⟩:=c
  split at hc
  ·rename_i x t bL ha ht
   simp only at bL ha ht
   subst bL
   have tV:args=#[x]:=by apply Array.ext';exact ha
   have yz:argTypes=#[t]:=by apply Array.ext';exact ht
   subst tV yz
   simp only[Bool.and_eq_true] at hc
   obtain⟨c1,c2⟩:=hc
   split at c2
   ·rename_i e hu
    simp only[exec] at hx
    split at hx
    ·rename_i n sz lo len hp
     split at hx
     ·rename_i hn
      injection hx with hx
      subst hx
      exact Ih r rfl hN c1 hu (.inl ⟨_,_,_,hp,hn⟩)
     ·cases hx
    ·rename_i sz xs hp
     injection hx with hx
     subst hx
     exact Ih r rfl hN c1 hu (.inr (.inl ⟨_,_,hp,rfl⟩))
    ·rename_i sz hp
     injection hx with hx
     subst hx
     exact Ih r rfl hN c1 hu (.inr (.inr (.inl ⟨_,hp,rfl⟩)))
    ·rename_i n k az off sz len hp
     split at hx
     ·rename_i s ys rE
      injection hx with hx
      subst hx
      exact Ih r rfl hN c1 hu (.inr (.inr (.inr ⟨_,_,_,_,_,_,_,_,hp,rE,rfl⟩)))
     ·cases hx
    ·cases hx
   ·cases c2
  ·cases hc
 |append fl sz by_ mx my=>
  cases op<;>simp only[dW] at hc<;>first|cases hc|skip
  rename_i c
  obtain⟨callee,args,argTypes⟩:=c
  split at hc
  ·rename_i x y t t' bL ha ht
   simp only at bL ha ht
   subst bL
   have tV:args=#[x,y]:=by apply Array.ext';exact ha
   have yz:argTypes=#[t,t']:=by apply Array.ext';exact ht
   subst tV yz
   simp only[Bool.and_eq_true,beq_iff_eq] at hc
   obtain⟨⟨⟨rfl,c1⟩,c2⟩,c3⟩:=hc
   obtain⟨e,i,z,h1,h2,h3,h4,h5,h6⟩:=vH c3
   simp only[Bool.and_eq_true,beq_iff_eq,decide_eq_true_eq] at h6
   simp only[exec] at hx
   split at hx
   ·cases hx
   ·rename_i n
    split at hx
    ·cases hx
    ·rename_i xs m σ1 hl
     split at hx
     ·cases hx
     ·rename_i ys m2 σ2 hr
      split at hx
      ·rename_i hb
       split at hx
       ·rename_i gI hi
        injection hx with hx
        subst hx
        exact aeT r rfl rfl (hN _ rfl) c1 c2 h1 h2 h3 h4 h5 h6.1.1 h6.1.2 h6.2 hl hr hb hi
       ·cases hx
      ·cases hx
  ·cases hc
 |copy sz mx my=>
  cases op<;>simp only[dW] at hc<;>first|cases hc|skip
  rename_i c
  obtain⟨callee,args,argTypes⟩:=c
  split at hc
  ·rename_i x y t t' bL ha ht
   simp only at bL ha ht
   subst bL
   have tV:args=#[x,y]:=by apply Array.ext';exact ha
   have yz:argTypes=#[t,t']:=by apply Array.ext';exact ht
   subst tV yz
   simp only[Bool.and_eq_true,beq_iff_eq] at hc
   obtain⟨⟨⟨c0,c1⟩,c2⟩,c3⟩:=hc
   obtain⟨e,i,z,h1,h2,h3,h4,h5,_⟩:=vH c3
   simp only[exec] at hx
   split at hx
   ·rename_i n s lo len cc hp hq
    split at hx
    ·rename_i gr m rs xs s' ys hn hv
     split at hx
     ·rename_i cI
      obtain⟨rfl,rfl,rfl,rfl,k1,k2,k3,k4⟩:=cI
      injection hx with hx
      subst hx
      exact ae6 r rfl hN c1 c2 h1 h2 h4 hp hq hn hv k1 k2 k3 k4
     ·cases hx
    ·cases hx
   ·cases hx
  ·cases hc
 |kB zc mx=>
  cases op<;>simp only[dW] at hc<;>first|cases hc|skip
  rename_i c
  obtain⟨callee,args,argTypes⟩:=c
  split at hc
  ·rename_i x t bL ha ht
   simp only at bL ha ht
   subst bL
   have tV:args=#[x]:=by apply Array.ext';exact ha
   have yz:argTypes=#[t]:=by apply Array.ext';exact ht
   subst tV yz
   simp only[Bool.and_eq_true] at hc
   obtain⟨c1,c3⟩:=hc
   obtain⟨e,i,z,h1,h2,h3,h4,h5,h6⟩:=vH c3
   simp only[exec] at hx
   split at hx
   ·rename_i n s lo len hp
    split at hx
    ·rename_i gr m rs xs hn
     split at hx
     ·rename_i cI
      obtain⟨rfl,rfl,k0,k1,k2,k3⟩:=cI
      injection hx with hx
      subst hx
      exact ae4 r rfl hN c1 h1 h2 h3 h6 k0 hp hn k1 k2 k3
     ·cases hx
    ·cases hx
   ·cases hx
  ·cases hc
 |mm b mx my=>
  cases op<;>simp only[dW] at hc<;>first|cases hc|skip
  rename_i c
  obtain⟨callee,args,argTypes⟩:=c
  have cf:∀x y,callee=.builtin (if b=true then .max else .min)->args=#[x,y]->bB x mx=true->bB y my=true->
    Oper.wp P ⟨dst,.call ⟨callee,args,argTypes⟩,ty,pos,after,guard⟩ a w (Nx B E w0 N σ') Q:=by
   intro x y bL ha c1 c2
   subst bL ha
   simp only[exec] at hx
   split at hx
   ·rename_i k n k' m h1 h2
    have:=afh (P:=P) (Q:=Q) (mx':=b) r (o:=⟨dst,.call ⟨.builtin (if b=true then .max else .min),#[x,y],argTypes⟩,ty,pos,after,guard⟩) rfl hN c1 c2 h1 h2
    cases b
    ·simp at hx this
     split at hx<;>(rename_i bG;injection hx with hx;subst hx;simpa[bG] using this)
    ·simp at hx this
     split at hx<;>(rename_i bG;injection hx with hx;subst hx;simpa[bG] using this)
   ·cases hx
  split at hc
  ·rename_i x y bL ha
   simp only[Bool.and_eq_true] at hc
   obtain⟨⟨rfl,c1⟩,c2⟩:=hc
   exact cf x y bL (by apply Array.ext';exact ha) c1 c2
  ·rename_i x y bL ha
   simp only[Bool.and_eq_true,Bool.not_eq_true'] at hc
   obtain⟨⟨rfl,c1⟩,c2⟩:=hc
   exact cf x y bL (by apply Array.ext';exact ha) c1 c2
  ·cases hc
 |call m f ms=>
  cases op<;>simp only[dW] at hc<;>first|cases hc|skip
  rename_i c
  obtain⟨callee,args,argTypes⟩:=c
  split at hc
  ·rename_i g bL
   simp only at bL
   subst bL
   simp only[Bool.and_eq_true,beq_iff_eq] at hc
   obtain⟨⟨rfl,c1⟩,c2⟩:=hc
   exact aeZ r hT hN rfl c1 c2 hx
  ·cases hc
 |mh f ms=>
  cases op<;>simp only[dW] at hc<;>first|cases hc|skip
  rename_i c
  obtain⟨callee,args,argTypes⟩:=c
  split at hc
  ·rename_i g bL
   simp only at bL
   subst bL
   simp only[Bool.and_eq_true,beq_iff_eq] at hc
   obtain⟨⟨rfl,c1⟩,c2⟩:=hc
   simp only[exec] at hx
   split at hx
   ·rename_i z hz
    injection hx with hx
    subst hx
    exact ae0 r hT hN rfl c1 c2 hz
   ·cases hx
  ·cases hc
 |gd m f ms=>
  cases op<;>simp only[dW] at hc<;>first|cases hc|skip
  rename_i c
  obtain⟨callee,args,argTypes⟩:=c
  split at hc
  ·rename_i g bL
   simp only at bL
   subst bL
   simp only[Bool.and_eq_true,beq_iff_eq] at hc
   obtain⟨⟨rfl,c1⟩,c2⟩:=hc
   simp only[exec] at hx
   exact ae1 r hTM hN rfl c1 c2 hx
  ·cases hc
 |du f ms=>exact afi r AQ hN hc hx
 |mq f ms=>exact afk r NS hN hc hx
 |lv f ms=>exact afj r AQ hN hc hx
 |pq f ms=>
  cases op<;>simp only[dW] at hc<;>first|cases hc|skip
  rename_i fn first xs
  cases fn<;>simp only at hc<;>first|cases hc|skip
  simp only[Bool.and_eq_true,beq_iff_eq] at hc
  obtain⟨⟨⟨rfl,c0⟩,c1⟩,c2⟩:=hc
  have hf0:first=#[]:=by simpa using c0
  subst hf0
  obtain⟨g1,g2⟩:=Mc c2
  simp only[exec] at hx
  split at hx
  ·rename_i cs ez
   split at hx
   ·rename_i hj
    injection hx with hx
    subst hx
    exact aff r rfl hN ⟨by simpa using g1.symm,g2⟩ ez (fun c hc gf=>by
     have:=List.all_eq_true.1 hj c hc
     subst gf
     simp[ah.EA] at this)
   ·cases hx
  ·cases hx
 |mn m mx ms=>
  cases op<;>simp only[dW] at hc<;>first|cases hc|skip
  rename_i c
  obtain⟨callee,args,argTypes⟩:=c
  split at hc
  ·rename_i t bL
   simp only at bL
   subst bL
   simp only[Bool.and_eq_true] at hc
   simp only[exec] at hx
   split at hx
   ·rename_i f cr hp
    have hfk:bC P f=true:=by
     have fM:=hx
     unfold rf at fM
     split at fM
     ·split at fM
      ·rename_i M hM;exact hF f M hM
      ·cases fM
     ·cases fM
    exact ae2 r hT hN rfl hfk hc.1 hc.2 hp hx
   ·cases hx
  ·cases hc
end
end Go.Am
