/- Am17: is an operation of the program what the abstract one says? No condition. -/
import Derived.Test.YtfkfmbhknekkdaaAmR
import Derived.Test.YtfkfmbhknekkdaaAmX
set_option linter.unusedVariables false
set_option linter.unusedSimpArgs false
namespace Go.Am
def ye:Option Operand->Option MO->Bool
 |none,none=>true
 |some x,some m=>bi x m
 |_,_=>false
def qA (P:Program) (t:TypeId) (sz:Nat) (k:TypeInfo->Value->Bool):Bool:=
 match P.underlying t with
 |some (.slice e)=>match P.info? e with
  |some i=>match i.zero with
   |some z=>i.size==sz&&decide (0<sz)&&k i z
   |none=>false
  |none=>false
 |_=>false
theorem tH {P:Program} {t:TypeId} {sz:Nat} {k:TypeInfo->Value->Bool} (h:qA P t sz k=true):
  ∃e i z,P.underlying t=some (.slice e)/\P.info? e=some i/\i.zero=some z/\i.size=sz/\0<sz/\k i z=true:=by
 unfold qA at h
 split at h
 ·rename_i e he
  split at h
  ·rename_i i hi
   split at h
   ·rename_i z hz
    simp only[Bool.and_eq_true,beq_iff_eq,decide_eq_true_eq] at h
    exact⟨e,i,z,he,hi,hz,h.1.1,h.1.2,h.2⟩
   ·cases h
  ·cases h
 ·cases h
def Ez (P:Program) (t:TypeId) (zs:List ae):Bool:=
 match P.info? t with
 |some i=>match i.zero with
  |some z=>qz z.cells.toList zs
  |none=>false
 |none=>false
theorem RS {P:Program} {t:TypeId} {zs:List ae} (h:Ez P t zs=true):∃i z,P.info? t=some i/\i.zero=some z/\qz z.cells.toList zs=true:=by
 unfold Ez at h
 split at h
 ·rename_i i hi
  split at h
  ·rename_i z hz;exact⟨i,z,hi,hz,h⟩
  ·cases h
 ·cases h
def RJ (P:Program) (t:TypeId) (parts:List (Nat×Operand)) (zs:List ae) (ms:List (Nat×Nat×MO)):Bool:=
 match P.underlying t with
 |some (.struct lZ)=>match lZ.toList.mapM (fun f=>(P.info? f.type).map fun i=>(f.offset,i.size)) with
  |some places=>Ez P t zs&&vH places parts ms
  |none=>false
 |_=>false
def RR (P:Program) (t:TypeId) (sz:Nat):Bool:=
 match P.info? t with
 |some i=>i.size==sz&&decide (0<sz)
 |none=>false
def RM (P:Program) (t u:TypeId) (k:IntKind):Bool:=
 match P.underlying t,P.underlying u with
 |some _,some (.int k')=>k==k'
 |_,_=>false
def V5 (P:Program) (t:TypeId):Bool:=
 match P.underlying t with
 |some .bool=>true
 |_=>false
def dt (P:Program) (o:Oper) (mo:aw):Bool:=
 match mo,o.op with
 |.mv m,.move x=>bi x m
 |.mv m,.assign x=>bi x m
 |.pick c x y,.pick c' x' y'=>bi c' c&&bi x' x&&bi y' y
 |.alloc zs,.alloc e=>Ez P e zs
 |.box sz m,.box e x=>bi x m
 |.build zs ms,.build t parts=>RJ P t parts.toList zs ms
 |.gA sz ms,.buildSlice t len parts=>qA P t sz (fun _ _=>true)&&(ms.length==len)&&decide (parts.toList.map (·.1)=List.range len)&&decide (len*sz<=16777216)&&ff (parts.toList.map (·.2)) ms
 |.load ag sz m,.load t x=>bi x m&&nP P t ag sz
 |.mC ag sz m,.load t x=>bi x m&&nP P t ag sz
 |.store sz mx my,.store t x y=>o.dst.isNone&&bi x mx&&bi y my&&RR P t sz
 |.mG m,.nilCheck x=>bi x m
 |.bin op mx my,.binOp uG t x y t'=>decide (op=uG)&&bi x mx&&bi y my
 |.kv op mx my,.binOp uG t x y t'=>decide (op=uG)&&bi x mx&&bi y my&&V5 P t
 |.un op mx,.unOp uG t x=>decide (op=uG)&&bi x mx
 |.conv k mx,.convert t u x=>bi x mx&&RM P t u k
 |.kg m sz by_ zs ml mc,.makeSlice t l c=>bi l ml&&bi c mc&&qA P t sz (fun i z=>(i.bytes==by_)&&decide (0<by_)&&r6 z.cells.toList zs)
 |.slice sz mx Gf Gc,.slice t x lo hi none=>bi x mx&&ye lo Gf&&ye hi Gc&&qA P t sz (fun _ _=>true)
 |.tail sz mx ml,.slice t x (some y) none none=>bi x mx&&bi y ml&&qA P t sz (fun _ _=>true)
 |.aB off mx,.fieldAddr s x f=>bi x mx&&Et P s f off
 |.cR sz mx mi,.indexAddr t x i=>bi x mx&&bi i mi&&qA P t sz (fun _ _=>true)
 |.ext i mx,.extract x j=>(i==j)&&bi x mx
 |.m7 ag off sz mx,.field s x f=>bi x mx&&I0 P s f off ag sz
 |.mK f bw mx,.call c=>match c.callee,c.args.toList with
  |.value (.func g),[x]=>(f==g)&&ca P f&&Ey P f bw&&bi x mx
  |_,_=>false
 |.len mx,.call c=>match c.callee,c.args.toList,c.argTypes.toList with
  |.builtin .len,[x],[t]=>bi x mx&&(match P.underlying t with|some (.slice _)=>true|_=>false)
  |_,_,_=>false
 |.append fl sz by_ mx my,.call c=>match c.callee,c.args.toList,c.argTypes.toList with
  |.builtin .append,[x,y],[t,t']=>(t==t')&&bi x mx&&bi y my&&qA P t sz (fun i z=>(i.bytes==by_)&&decide (0<by_)&&(z.cells.size==sz))
  |_,_,_=>false
 |.copy sz mx my,.call c=>match c.callee,c.args.toList,c.argTypes.toList with
  |.builtin .copy,[x,y],[t,t']=>(sz==1)&&bi x mx&&bi y my&&qA P t 1 (fun _ _=>true)
  |_,_,_=>false
 |.jz zc mx,.call c=>match c.callee,c.args.toList,c.argTypes.toList with
  |.builtin .clear,[x],[t]=>bi x mx&&qA P t 1 (fun _ z=>r6 z.cells.toList [zc])
  |_,_,_=>false
 |.mm b mx my,.call c=>match c.callee,c.args.toList with
  |.builtin .max,[x,y]=>b&&bi x mx&&bi y my
  |.builtin .min,[x,y]=> !b&&bi x mx&&bi y my
  |_,_=>false
 |.call m f ms,.call c=>match c.callee with
  |.value (.func g)=>(f==g)&&ca P f&&ff c.args.toList ms
  |_=>false
 |.kw f ms,.call c=>match c.callee with
  |.value (.func g)=>(f==g)&&ca P f&&ff c.args.toList ms
  |_=>false
 |.iZ m f ms,.call c=>match c.callee with
  |.value (.func g)=>(f==g)&&ca P f&&ff c.args.toList ms
  |_=>false
 |.iu f ms,.call c=>match c.callee with
  |.value (.func g)=>(f==g)&&ca P f&&ff c.args.toList ms
  |_=>false
 |.kA f ms,.call c=>match c.callee with
  |.value (.func g)=>(f==g)&&ca P f&&ff c.args.toList ms
  |_=>false
 |.kx f ms,.call c=>match c.callee with
  |.value (.func g)=>(f==g)&&ca P f&&ff c.args.toList ms
  |_=>false
 |.kB m f ms,.call c=>match c.callee with
  |.value (.func g)=>(f==g)&&ca P f&&ff c.args.toList ms
  |_=>false
 |.kz m f mx ms,.call c=>match c.callee with
  |.value (.tmp t)=>ca P f&&bi (.tmp t) mx&&ff c.args.toList ms
  |_=>false
 |.mF f ms,.makeFunc (.func g) first xs=>(f==g)&&first.isEmpty&&ca P f&&ff xs.toList ms
 |.ky m mx ms,.call c=>match c.callee with
  |.value (.tmp t)=>bi (.tmp t) mx&&ff c.args.toList ms
  |_=>false
 |_,_=>false
theorem I1:∀{xs:List Operand} {ms:List MO},ff xs ms=true->xs.length=ms.length/\∀(j:Nat) (x:Operand) (m:MO),xs[j]? =some x->ms[j]? =some m->bi x m=true
 |[],[],_=>⟨rfl,by simp⟩
 |x::xs,m::ms,hc=>by
  simp only[ff,Bool.and_eq_true] at hc
  obtain⟨i1,i2⟩:=I1 hc.2
  refine⟨by simp[i1],fun j x' m' hj hm=>?_⟩
  cases j with
  |zero=>simp at hj hm;subst hj;subst hm;exact hc.1
  |succ j=>exact i2 j x' m' (by simpa using hj) (by simpa using hm)
 |[],_::_,hc=>by simp[ff] at hc
 |_::_,[],hc=>by simp[ff] at hc
section
variable {B:Nat} {E:Ex} {w0 w w':World} {G G':Gh} {h h':Nat->Option ak} {used used':Nat->Bool} {tk:List PC} {N:Nat}
variable {P:Program} {o:Oper} {a:Act} {σ σ':St} {Q:Exit->Act->World->Prop}
theorem abM (r:R B E w0 N σ a w G) {T:aA} (yF:xV P T) {f:FuncId} {ms:List MO} (hN:∀n,o.dst=some n->n<N) (hc:dt P o (.kx f ms)=true) (hx:exec T o.dst (.kx f ms) σ=some σ'):o.wp P a w (Nx B E w0 N σ') Q:=by
 obtain⟨dst,op,ty,pos,after,guard⟩:=o
 cases op<;>simp only[dt] at hc<;>first|cases hc|skip
 rename_i c
 obtain⟨callee,args,argTypes⟩:=c
 split at hc
 ·rename_i g bq
  simp only at bq
  subst bq
  simp only[Bool.and_eq_true,beq_iff_eq] at hc
  obtain⟨⟨rfl,c1⟩,c2⟩:=hc
  simp only[exec] at hx
  split at hx
  ·rename_i v0 pO
   injection hx with hx
   subst hx
   exact SI r yF hN rfl c1 c2 (aa1 pO σ)
  ·cases hx
 ·cases hc
theorem abN (r:R B E w0 N σ a w G) {T:aA} (yG:tx P T) {f:FuncId} {ms:List MO} (hN:∀n,o.dst=some n->n<N) (hc:dt P o (.kA f ms)=true) (hx:exec T o.dst (.kA f ms) σ=some σ'):o.wp P a w (Nx B E w0 N σ') Q:=by
 obtain⟨dst,op,ty,pos,after,guard⟩:=o
 cases op<;>simp only[dt] at hc<;>first|cases hc|skip
 rename_i c
 obtain⟨callee,args,argTypes⟩:=c
 split at hc
 ·rename_i g bq
  simp only at bq
  subst bq
  simp only[Bool.and_eq_true,beq_iff_eq] at hc
  obtain⟨⟨rfl,c1⟩,c2⟩:=hc
  simp only[exec] at hx
  split at hx
  ·rename_i v0 pO
   injection hx with hx
   subst hx
   exact abt r yG hN rfl c1 c2 pO
  ·cases hx
 ·cases hc
theorem abO (r:R B E w0 N σ a w G) {T:aA} (yG:tx P T) {m:Mode} {f:FuncId} {ms:List MO} (hN:∀n,o.dst=some n->n<N) (hc:dt P o (.kB m f ms)=true) (hx:exec T o.dst (.kB m f ms) σ=some σ'):o.wp P a w (Nx B E w0 N σ') Q:=by
 obtain⟨dst,op,ty,pos,after,guard⟩:=o
 cases op<;>simp only[dt] at hc<;>first|cases hc|skip
 rename_i c
 obtain⟨callee,args,argTypes⟩:=c
 split at hc
 ·rename_i g bq
  simp only at bq
  subst bq
  simp only[Bool.and_eq_true,beq_iff_eq] at hc
  obtain⟨⟨rfl,c1⟩,c2⟩:=hc
  simp only[exec] at hx
  exact abu r yG hN rfl c1 c2 hx
 ·cases hc
theorem abL (r:R B E w0 N σ a w G) {T:aA} (yF:xV P T) {f:FuncId} {ms:List MO} (hN:∀n,o.dst=some n->n<N) (hc:dt P o (.iu f ms)=true) (hx:exec T o.dst (.iu f ms) σ=some σ'):o.wp P a w (Nx B E w0 N σ') Q:=by
 obtain⟨dst,op,ty,pos,after,guard⟩:=o
 cases op<;>simp only[dt] at hc<;>first|cases hc|skip
 rename_i c
 obtain⟨callee,args,argTypes⟩:=c
 split at hc
 ·rename_i g bq
  simp only at bq
  subst bq
  simp only[Bool.and_eq_true,beq_iff_eq] at hc
  obtain⟨⟨rfl,c1⟩,c2⟩:=hc
  simp only[exec] at hx
  exact SI r yF hN rfl c1 c2 hx
 ·cases hc
set_option maxHeartbeats 1000000 in
theorem SO (r:R B E w0 N σ a w G) {T:aA} (hT:vz P T) (TM:xU P T) (yF:xV P T) (yG:tx P T) (hF:∀f M,aA.find T.pure f=some M->ca P f=true) {mo:aw} (hN:∀n,o.dst=some n->n<N) (hc:dt P o mo=true) (hx:exec T o.dst mo σ=some σ'):
  o.wp P a w (Nx B E w0 N σ') Q:=by
 obtain⟨dst,op,ty,pos,after,guard⟩:=o
 cases mo with
 |mv m=>
  simp only[exec] at hx
  injection hx with hx
  subst hx
  cases op<;>simp only[dt] at hc<;>first|cases hc|skip
  ·exact SN r (.inl rfl) hN hc
  ·exact SN r (.inr rfl) hN hc
 |pick c x y=>
  cases op<;>simp only[dt] at hc<;>first|cases hc|skip
  rename_i c' x' y'
  simp only[Bool.and_eq_true] at hc
  simp only[exec] at hx
  split at hx
  ·rename_i b hb
   have:=abP (P:=P) (Q:=Q) r (o:=⟨dst,.pick c' x' y',ty,pos,after,guard⟩) rfl hN hc.1.1 hc.1.2 hc.2 hb
   cases b<;>simp at hx<;>subst hx<;>exact this
  ·cases hx
 |alloc zs=>
  cases op<;>simp only[dt] at hc<;>first|cases hc|skip
  obtain⟨i,z,h1,h2,h3⟩:=RS hc
  simp only[exec] at hx
  split at hx
  ·rename_i n
   split at hx
   ·rename_i σ1 hi
    injection hx with hx
    subst hx
    exact abg r rfl rfl (hN n rfl) h1 h2 h3 hi
   ·cases hx
  ·cases hx
 |box sz m=>
  cases op<;>simp only[dt] at hc<;>first|cases hc|skip
  simp only[exec] at hx
  split at hx
  ·rename_i n ag cs eF
   split at hx
   ·split at hx
    ·rename_i σ1 hi
     injection hx with hx
     subst hx
     exact abk r rfl rfl (hN _ rfl) hc eF hi
    ·cases hx
   ·cases hx
  ·cases hx
 |build zs ms=>
  cases op<;>simp only[dt] at hc<;>first|cases hc|skip
  simp only[exec] at hx
  split at hx
  ·rename_i cs eF
   injection hx with hx
   subst hx
   unfold RJ at hc
   split at hc
   ·rename_i lZ hu
    split at hc
    ·rename_i places eH
     simp only[Bool.and_eq_true] at hc
     obtain⟨i,z,h1,h2,h3⟩:=RS hc.1
     exact abm r rfl hN h1 h2 hu eH h3 hc.2 eF
    ·cases hc
   ·cases hc
  ·cases hx
 |gA sz ms=>
  cases op<;>simp only[dt] at hc<;>first|cases hc|skip
  simp only[Bool.and_eq_true,beq_iff_eq,decide_eq_true_eq] at hc
  obtain⟨⟨⟨⟨c1,c2⟩,c3⟩,c4⟩,c5⟩:=hc
  obtain⟨e,i,z,h1,h2,h3,h4,h5,_⟩:=tH c1
  simp only[exec] at hx
  split at hx
  ·rename_i n es ow σ1 yX
   split at hx
   ·rename_i σ2 hi
    injection hx with hx
    subst hx
    refine abl r rfl rfl (hN _ rfl) h1 h2 h3 h4 h5 c2 c3 c4 (fun j p m hp hm=>?_) yX hi
    exact(I1 c5).2 j p.2 m (by simp[hp]) hm
   ·cases hx
  ·cases hx
 |load ag sz m=>
  cases op<;>simp only[dt] at hc<;>first|cases hc|skip
  simp only[Bool.and_eq_true] at hc
  simp only[exec] at hx
  split at hx
  ·rename_i p hp
   split at hx
   ·rename_i cs eF
    injection hx with hx
    subst hx
    exact SM r rfl hN hc.1 hc.2 hp eF
   ·cases hx
  ·cases hx
 |mC ag sz m=>
  cases op<;>simp only[dt] at hc<;>first|cases hc|skip
  simp only[Bool.and_eq_true] at hc
  simp only[exec] at hx
  split at hx
  ·rename_i p hp
   split at hx
   ·rename_i σ1 hf
    split at hx
    ·rename_i cs eF
     injection hx with hx
     subst hx
     exact abH r rfl hN hc.1 hc.2 hp hf eF
    ·cases hx
   ·cases hx
  ·cases hx
 |store sz mx my=>
  cases op<;>simp only[dt] at hc<;>first|cases hc|skip
  simp only[Bool.and_eq_true] at hc
  obtain⟨⟨⟨c0,c1⟩,c2⟩,c3⟩:=hc
  have hd:dst=none:=by simpa using c0
  unfold RR at c3
  split at c3
  ·rename_i i hi
   simp only[Bool.and_eq_true,beq_iff_eq,decide_eq_true_eq] at c3
   simp only[exec] at hx
   split at hx
   ·rename_i n k au off ag vs hp hv
    split at hx
    ·rename_i hl
     split at hx
     ·rename_i cs hn
      split at hx
      ·rename_i hk
       injection hx with hx
       subst hx
       exact abQ r rfl hd c1 c2 hi c3.1 c3.2 hp hv hl hn hk.1 hk.2
      ·cases hx
     ·rename_i gr m rs xs hn
      split at hx
      ·rename_i pM
       subst pM
       split at hx
       ·rename_i el ly
        exact abS r rfl hd c1 c2 hi c3.1 c3.2 hp hv hl hn ly hx
       ·cases hx
      ·cases hx
     ·cases hx
    ·cases hx
   ·rename_i n k au off s i ag vs hp hv
    split at hx
    ·rename_i hl
     split at hx
     ·rename_i gr rs xs hn
      split at hx
      ·rename_i pM
       subst pM
       split at hx
       ·rename_i ao lE
        injection hx with hx
        subst hx
        exact abR r rfl hd c1 c2 hi c3.1 c3.2 hp hv hl hn lE
       ·cases hx
      ·cases hx
     ·cases hx
    ·cases hx
   ·cases hx
  ·cases c3
 |mG m=>
  cases op<;>simp only[dt] at hc<;>first|cases hc|skip
  simp only[exec] at hx
  split at hx
  ·rename_i n k sz off hp
   split at hx
   ·rename_i hn
    injection hx with hx
    subst hx
    rw[<-hp]
    exact Jq r rfl hN hc (.inl ⟨_,_,_,_,hp,hn⟩)
   ·cases hx
  ·rename_i xs off hp
   injection hx with hx
   subst hx
   rw[<-hp]
   exact Jq r rfl hN hc (.inr (.inl ⟨_,_,hp⟩))
  ·rename_i xs off j n s len hp
   injection hx with hx
   subst hx
   rw[<-hp]
   exact Jq r rfl hN hc (.inr (.inr ⟨_,_,_,_,_,_,hp⟩))
  ·cases hx
 |bin uG mx my=>
  cases op<;>simp only[dt] at hc<;>first|cases hc|skip
  simp only[Bool.and_eq_true,decide_eq_true_eq] at hc
  obtain⟨⟨rfl,c1⟩,c2⟩:=hc
  simp only[exec] at hx
  split at hx
  ·rename_i c hb
   injection hx with hx
   subst hx
   exact abi r rfl hN c1 c2 hb
  ·cases hx
 |kv uG mx my=>
  cases op<;>simp only[dt] at hc<;>first|cases hc|skip
  simp only[Bool.and_eq_true,decide_eq_true_eq] at hc
  obtain⟨⟨⟨rfl,c1⟩,c2⟩,c3⟩:=hc
  unfold V5 at c3
  split at c3
  ·rename_i ht
   simp only[exec] at hx
   split at hx
   ·rename_i c hb
    injection hx with hx
    subst hx
    exact abj r rfl hN c1 c2 ht hb
   ·cases hx
  ·cases c3
 |un uG mx=>
  cases op<;>simp only[dt] at hc<;>first|cases hc|skip
  simp only[Bool.and_eq_true,decide_eq_true_eq] at hc
  obtain⟨rfl,c1⟩:=hc
  simp only[exec] at hx
  split at hx
  ·rename_i c hb
   injection hx with hx
   subst hx
   exact abU r rfl hN c1 hb
  ·cases hx
 |conv k mx=>
  cases op<;>simp only[dt] at hc<;>first|cases hc|skip
  simp only[Bool.and_eq_true] at hc
  obtain⟨c1,c2⟩:=hc
  unfold RM at c2
  split at c2
  ·rename_i d k' ht hu
   have hk:k=k':=by simpa using c2
   subst hk
   simp only[exec] at hx
   split at hx
   ·rename_i k2 n hb
    injection hx with hx
    subst hx
    exact abw r rfl hN c1 ht hu hb
   ·cases hx
  ·cases c2
 |kg m sz by_ zs ml mc=>
  cases op<;>simp only[dt] at hc<;>first|cases hc|skip
  simp only[Bool.and_eq_true] at hc
  obtain⟨⟨c1,c2⟩,c3⟩:=hc
  obtain⟨e,i,z,h1,h2,h3,h4,h5,h6⟩:=tH c3
  simp only[Bool.and_eq_true,beq_iff_eq,decide_eq_true_eq] at h6
  simp only[exec] at hx
  split at hx
  ·rename_i n q q' hq dB
   split at hx
   ·rename_i cm
    obtain⟨k1,k2,k3,k4⟩:=cm
    split at hx
    ·rename_i σ1 hi
     injection hx with hx
     subst hx
     exact abJ r rfl rfl (hN _ rfl) c1 c2 h1 h2 h3 h4 h6.1.1 h6.1.2 h5 h6.2 hq dB k1 k2 k3 k4 hi
    ·cases hx
   ·cases hx
  ·cases hx
 |slice sz mx Gf Gc=>
  cases op<;>simp only[dt] at hc<;>first|cases hc|skip
  rename_i t x lo hi mm
  cases mm<;>simp only[dt] at hc<;>first|cases hc|skip
  simp only[Bool.and_eq_true] at hc
  obtain⟨⟨⟨c1,c2⟩,c3⟩,c4⟩:=hc
  obtain⟨e,i,z,h1,h2,h3,h4,h5,_⟩:=tH c4
  have pG:∀l,(match Gf with|none=>some 0|some l=>(σ.ev l).cZ)=some l->(lo=none/\l=0)\/∃y my,lo=some y/\bi y my=true/\(σ.ev my).cZ=some l:=by
   intro l hl
   cases Gf with
   |none=>cases lo<;>simp[ye] at c2;simp at hl;exact .inl ⟨rfl,hl.symm⟩
   |some my=>cases lo<;>simp[ye] at c2;exact .inr ⟨_,my,rfl,c2,hl⟩
  have sA:∀(len:Nat) hh,(match Gc with|none=>some (len:Int)|some h=>(σ.ev h).cZ)=some hh->(hi=none/\hh=len)\/∃y my,hi=some y/\bi y my=true/\(σ.ev my).cZ=some hh:=by
   intro len l hl
   cases Gc with
   |none=>cases hi<;>simp[ye] at c3;simp at hl;exact .inl ⟨rfl,hl.symm⟩
   |some my=>cases hi<;>simp[ye] at c3;exact .inr ⟨_,my,rfl,c3,hl⟩
  simp only[exec] at hx
  split at hx
  ·rename_i n s l0 len l hp hl
   split at hx
   ·rename_i hh KH
    split at hx
    ·rename_i cm
     obtain⟨rfl,k1,k2,k3,k4⟩:=cm
     injection hx with hx
     subst hx
     exact SP r rfl hN c1 h1 h2 h4 h5 (pG l hl) (sA len hh KH) k1 k2 k3 (.inl ⟨n,l0,hp,k4,rfl⟩)
    ·cases hx
   ·cases hx
  ·rename_i s xs l hp hl
   split at hx
   ·rename_i hh KH
    split at hx
    ·rename_i cm
     obtain⟨rfl,k1,k2,k3⟩:=cm
     injection hx with hx
     subst hx
     exact SP r rfl hN c1 h1 h2 h4 h5 (pG l hl) (sA xs.length hh KH) k1 k2 k3 (.inr ⟨xs,hp,rfl,rfl⟩)
    ·cases hx
   ·cases hx
  ·cases hx
 |tail sz mx ml=>
  cases op<;>simp only[dt] at hc<;>first|cases hc|skip
  rename_i t x lo hi mm
  cases mm<;>cases hi<;>cases lo<;>simp only[dt] at hc<;>first|cases hc|skip
  rename_i y
  simp only[Bool.and_eq_true] at hc
  obtain⟨⟨c1,c2⟩,c4⟩:=hc
  obtain⟨e,i,z,h1,h2,h3,h4,h5,_⟩:=tH c4
  simp only[exec] at hx
  split at hx
  ·rename_i n a0 s len l hp hl
   split at hx
   ·rename_i m rs xs hn
    split at hx
    ·rename_i cm
     obtain⟨rfl,rfl,rfl,k1,k2⟩:=cm
     split at hx
     ·rename_i σ1 e1
      injection hx with hx
      subst hx
      exact abT r rfl rfl (hN _ rfl) c1 c2 h1 h2 h4 h5 hp hl k1 k2 hn e1
     ·cases hx
    ·cases hx
   ·cases hx
  ·cases hx
 |aB off mx=>
  cases op<;>simp only[dt] at hc<;>first|cases hc|skip
  simp only[Bool.and_eq_true] at hc
  simp only[exec] at hx
  split at hx
  ·rename_i n k sz q hp
   split at hx
   ·rename_i hn
    injection hx with hx
    subst hx
    exact Jp r rfl hN hc.1 hc.2 (.inl ⟨_,_,_,_,hp,hn,rfl⟩)
   ·cases hx
  ·rename_i xs q hp
   injection hx with hx
   subst hx
   exact Jp r rfl hN hc.1 hc.2 (.inr (.inl ⟨_,_,hp,rfl⟩))
  ·rename_i xs q j n s len hp
   injection hx with hx
   subst hx
   exact Jp r rfl hN hc.1 hc.2 (.inr (.inr ⟨_,_,_,_,_,_,hp,rfl⟩))
  ·cases hx
 |cR sz mx mi=>
  cases op<;>simp only[dt] at hc<;>first|cases hc|skip
  simp only[Bool.and_eq_true] at hc
  obtain⟨⟨c1,c2⟩,c3⟩:=hc
  obtain⟨e,i,z,h1,h2,h3,h4,h5,_⟩:=tH c3
  simp only[exec] at hx
  split at hx
  ·rename_i n s lo len k hp hk
   split at hx
   ·rename_i cm
    obtain⟨rfl,k1,k2,k3⟩:=cm
    injection hx with hx
    subst hx
    exact SL r rfl hN c1 c2 h1 h2 h4 hk k1 (.inl ⟨_,_,_,hp,k2,k3,rfl⟩)
   ·cases hx
  ·rename_i s xs k hp hk
   split at hx
   ·rename_i cm
    obtain⟨rfl,k1⟩:=cm
    split at hx
    ·rename_i el ly
     injection hx with hx
     subst hx
     exact SL r rfl hN c1 c2 h1 h2 h4 hk k1 (.inr ⟨_,_,hp,ly,rfl⟩)
    ·cases hx
   ·cases hx
  ·rename_i n kk au off s len k hp hk
   split at hx
   ·rename_i s' ys Lh
    split at hx
    ·rename_i cm
     obtain⟨rfl,k1,k2⟩:=cm
     injection hx with hx
     subst hx
     exact abG r rfl hN c1 c2 h1 h2 h4 hk k1 k2 hp Lh
    ·cases hx
   ·cases hx
  ·cases hx
 |ext i mx=>
  cases op<;>simp only[dt] at hc<;>first|cases hc|skip
  simp only[Bool.and_eq_true,beq_iff_eq] at hc
  obtain⟨rfl,c1⟩:=hc
  simp only[exec] at hx
  split at hx
  ·rename_i xs hp
   split at hx
   ·rename_i ag cs eF
    injection hx with hx
    subst hx
    refine abE r rfl hN c1 hp eF fun aW=>?_
    subst aW
    obtain⟨y1,_⟩:=r.ev c1
    rw[hp] at y1
    obtain⟨vs,_,hl,hv⟩:=y1
    have hi:i<vs.length:=by rw[hl];exact(List.getElem?_eq_some_iff.1 eF).1
    have:cL w G σ.h cs [vs[i]]:=hv i (false,cs) vs[i] eF (List.getElem?_eq_getElem hi)
    exact List.length_eq_one_iff.1 this.1.symm
   ·cases hx
  ·cases hx
 |m7 ag off sz mx=>
  cases op<;>simp only[dt] at hc<;>first|cases hc|skip
  simp only[Bool.and_eq_true] at hc
  simp only[exec] at hx
  split at hx
  ·rename_i cs hp
   split at hx
   ·rename_i l hl
    injection hx with hx
    subst hx
    exact abF r rfl hN hc.1 hc.2 hp hl
   ·cases hx
  ·cases hx
 |mK f bw mx=>
  cases op<;>simp only[dt] at hc<;>first|cases hc|skip
  rename_i c
  obtain⟨cal,args,Rh⟩:=c
  simp only at hc
  split at hc
  ·rename_i g x pC
   simp only[Bool.and_eq_true,beq_iff_eq] at hc
   obtain⟨⟨⟨hfg,c1⟩,c2⟩,c3⟩:=hc
   subst hfg
   have ea:args=#[x]:=by apply Array.ext';simpa using pC
   subst ea
   simp only[exec] at hx
   split at hx
   ·rename_i n sz lo len hp
    split at hx
    ·rename_i hs
     injection hx with hx
     subst hx
     exact Jr r hN rfl c1 c2 c3 hp (.inl ⟨n,sz,lo,rfl,hs⟩)
    ·cases hx
   ·rename_i sz xs hp
    injection hx with hx
    subst hx
    exact Jr r hN rfl c1 c2 c3 hp (.inr (.inl ⟨sz,xs,rfl,rfl⟩))
   ·rename_i sz hp
    injection hx with hx
    subst hx
    exact Jr r (len:=0) hN rfl c1 c2 c3 hp (.inr (.inr ⟨sz,rfl,rfl⟩))
   ·cases hx
  ·cases hc
 |len mx=>
  cases op<;>simp only[dt] at hc<;>first|cases hc|skip
  rename_i c
  obtain⟨callee,args,argTypes⟩:=c
  split at hc
  ·rename_i x t bq ha ht
   simp only at bq ha ht
   subst bq
   have pA:args=#[x]:=by apply Array.ext';exact ha
   have wE:argTypes=#[t]:=by apply Array.ext';exact ht
   subst pA wE
   simp only[Bool.and_eq_true] at hc
   obtain⟨c1,c2⟩:=hc
   split at c2
   ·rename_i e hu
    simp only[exec] at hx
    split at hx
    ·rename_i n sz lo len hp
     split at hx
     ·rename_i hn
      injection hx with hx
      subst hx
      exact EW r rfl hN c1 hu (.inl ⟨_,_,_,hp,hn⟩)
     ·cases hx
    ·rename_i sz xs hp
     injection hx with hx
     subst hx
     exact EW r rfl hN c1 hu (.inr (.inl ⟨_,_,hp,rfl⟩))
    ·rename_i sz hp
     injection hx with hx
     subst hx
     exact EW r rfl hN c1 hu (.inr (.inr (.inl ⟨_,hp,rfl⟩)))
    ·rename_i n k au off sz len hp
     split at hx
     ·rename_i s ys nf
      injection hx with hx
      subst hx
      exact EW r rfl hN c1 hu (.inr (.inr (.inr ⟨_,_,_,_,_,_,_,_,hp,nf,rfl⟩)))
     ·cases hx
    ·cases hx
   ·cases c2
  ·cases hc
 |append fl sz by_ mx my=>
  cases op<;>simp only[dt] at hc<;>first|cases hc|skip
  rename_i c
  obtain⟨callee,args,argTypes⟩:=c
  split at hc
  ·rename_i x y t t' bq ha ht
   simp only at bq ha ht
   subst bq
   have pA:args=#[x,y]:=by apply Array.ext';exact ha
   have wE:argTypes=#[t,t']:=by apply Array.ext';exact ht
   subst pA wE
   simp only[Bool.and_eq_true,beq_iff_eq] at hc
   obtain⟨⟨⟨rfl,c1⟩,c2⟩,c3⟩:=hc
   obtain⟨e,i,z,h1,h2,h3,h4,h5,h6⟩:=tH c3
   simp only[Bool.and_eq_true,beq_iff_eq,decide_eq_true_eq] at h6
   simp only[exec] at hx
   split at hx
   ·cases hx
   ·rename_i n
    split at hx
    ·cases hx
    ·rename_i xs m σ1 hl
     split at hx
     ·cases hx
     ·rename_i ys m2 σ2 hr
      split at hx
      ·rename_i hb
       split at hx
       ·rename_i fm hi
        injection hx with hx
        subst hx
        exact abh r rfl rfl (hN _ rfl) c1 c2 h1 h2 h3 h4 h5 h6.1.1 h6.1.2 h6.2 hl hr hb hi
       ·cases hx
      ·cases hx
  ·cases hc
 |copy sz mx my=>
  cases op<;>simp only[dt] at hc<;>first|cases hc|skip
  rename_i c
  obtain⟨callee,args,argTypes⟩:=c
  split at hc
  ·rename_i x y t t' bq ha ht
   simp only at bq ha ht
   subst bq
   have pA:args=#[x,y]:=by apply Array.ext';exact ha
   have wE:argTypes=#[t,t']:=by apply Array.ext';exact ht
   subst pA wE
   simp only[Bool.and_eq_true,beq_iff_eq] at hc
   obtain⟨⟨⟨c0,c1⟩,c2⟩,c3⟩:=hc
   obtain⟨e,i,z,h1,h2,h3,h4,h5,_⟩:=tH c3
   simp only[exec] at hx
   split at hx
   ·rename_i n s lo len cc hp hq
    split at hx
    ·rename_i gr m rs xs s' ys hn hv
     split at hx
     ·rename_i cm
      obtain⟨rfl,rfl,rfl,rfl,k1,k2,k3,k4⟩:=cm
      injection hx with hx
      subst hx
      exact abx r rfl hN c1 c2 h1 h2 h4 hp hq hn hv k1 k2 k3 k4
     ·cases hx
    ·cases hx
   ·cases hx
  ·cases hc
 |jz zc mx=>
  cases op<;>simp only[dt] at hc<;>first|cases hc|skip
  rename_i c
  obtain⟨callee,args,argTypes⟩:=c
  split at hc
  ·rename_i x t bq ha ht
   simp only at bq ha ht
   subst bq
   have pA:args=#[x]:=by apply Array.ext';exact ha
   have wE:argTypes=#[t]:=by apply Array.ext';exact ht
   subst pA wE
   simp only[Bool.and_eq_true] at hc
   obtain⟨c1,c3⟩:=hc
   obtain⟨e,i,z,h1,h2,h3,h4,h5,h6⟩:=tH c3
   simp only[exec] at hx
   split at hx
   ·rename_i n s lo len hp
    split at hx
    ·rename_i gr m rs xs hn
     split at hx
     ·rename_i cm
      obtain⟨rfl,rfl,k0,k1,k2,k3⟩:=cm
      injection hx with hx
      subst hx
      exact abv r rfl hN c1 h1 h2 h3 h6 k0 hp hn k1 k2 k3
     ·cases hx
    ·cases hx
   ·cases hx
  ·cases hc
 |mm b mx my=>
  cases op<;>simp only[dt] at hc<;>first|cases hc|skip
  rename_i c
  obtain⟨callee,args,argTypes⟩:=c
  have bU:∀x y,callee=.builtin (if b=true then .max else .min)->args=#[x,y]->bi x mx=true->bi y my=true->
    Oper.wp P ⟨dst,.call ⟨callee,args,argTypes⟩,ty,pos,after,guard⟩ a w (Nx B E w0 N σ') Q:=by
   intro x y bq ha c1 c2
   subst bq ha
   simp only[exec] at hx
   split at hx
   ·rename_i k n k' m h1 h2
    have:=abK (P:=P) (Q:=Q) (mx':=b) r (o:=⟨dst,.call ⟨.builtin (if b=true then .max else .min),#[x,y],argTypes⟩,ty,pos,after,guard⟩) rfl hN c1 c2 h1 h2
    cases b
    ·simp at hx this
     split at hx<;>(rename_i bB;injection hx with hx;subst hx;simpa[bB] using this)
    ·simp at hx this
     split at hx<;>(rename_i bB;injection hx with hx;subst hx;simpa[bB] using this)
   ·cases hx
  split at hc
  ·rename_i x y bq ha
   simp only[Bool.and_eq_true] at hc
   obtain⟨⟨rfl,c1⟩,c2⟩:=hc
   exact bU x y bq (by apply Array.ext';exact ha) c1 c2
  ·rename_i x y bq ha
   simp only[Bool.and_eq_true,Bool.not_eq_true'] at hc
   obtain⟨⟨rfl,c1⟩,c2⟩:=hc
   exact bU x y bq (by apply Array.ext';exact ha) c1 c2
  ·cases hc
 |call m f ms=>
  cases op<;>simp only[dt] at hc<;>first|cases hc|skip
  rename_i c
  obtain⟨callee,args,argTypes⟩:=c
  split at hc
  ·rename_i g bq
   simp only at bq
   subst bq
   simp only[Bool.and_eq_true,beq_iff_eq] at hc
   obtain⟨⟨rfl,c1⟩,c2⟩:=hc
   exact abn r hT hN rfl c1 c2 hx
  ·cases hc
 |kw f ms=>
  cases op<;>simp only[dt] at hc<;>first|cases hc|skip
  rename_i c
  obtain⟨callee,args,argTypes⟩:=c
  split at hc
  ·rename_i g bq
   simp only at bq
   subst bq
   simp only[Bool.and_eq_true,beq_iff_eq] at hc
   obtain⟨⟨rfl,c1⟩,c2⟩:=hc
   simp only[exec] at hx
   split at hx
   ·rename_i z hz
    injection hx with hx
    subst hx
    exact abo r hT hN rfl c1 c2 hz
   ·cases hx
  ·cases hc
 |iZ m f ms=>
  cases op<;>simp only[dt] at hc<;>first|cases hc|skip
  rename_i c
  obtain⟨callee,args,argTypes⟩:=c
  split at hc
  ·rename_i g bq
   simp only at bq
   subst bq
   simp only[Bool.and_eq_true,beq_iff_eq] at hc
   obtain⟨⟨rfl,c1⟩,c2⟩:=hc
   simp only[exec] at hx
   exact abp r TM hN rfl c1 c2 hx
  ·cases hc
 |iu f ms=>exact abL r yF hN hc hx
 |kA f ms=>exact abN r yG hN hc hx
 |kx f ms=>exact abM r yF hN hc hx
 |kB m f ms=>exact abO r yG hN hc hx
 |kz m f mx ms=>
  cases op<;>simp only[dt] at hc<;>first|cases hc|skip
  rename_i c
  obtain⟨callee,args,argTypes⟩:=c
  split at hc
  ·rename_i t bq
   simp only at bq
   subst bq
   simp only[Bool.and_eq_true] at hc
   simp only[exec] at hx
   split at hx
   ·rename_i g bM hp
    split at hx
    ·rename_i hg
     subst hg
     exact abr r TM hN rfl hc.1.1 hc.1.2 hc.2 hp hx
    ·cases hx
   ·cases hx
  ·cases hc
 |mF f ms=>
  cases op<;>simp only[dt] at hc<;>first|cases hc|skip
  rename_i fn first xs
  cases fn<;>simp only at hc<;>first|cases hc|skip
  simp only[Bool.and_eq_true,beq_iff_eq] at hc
  obtain⟨⟨⟨rfl,c0⟩,c1⟩,c2⟩:=hc
  have hf0:first=#[]:=by simpa using c0
  subst hf0
  obtain⟨g1,g2⟩:=I1 c2
  simp only[exec] at hx
  split at hx
  ·rename_i cs eF
   split at hx
   ·rename_i hj
    injection hx with hx
    subst hx
    exact abI r rfl hN ⟨by simpa using g1.symm,g2⟩ eF (fun c hc eE=>by
     have:=List.all_eq_true.1 hj c hc
     subst eE
     simp[ae.CB] at this)
   ·cases hx
  ·cases hx
 |ky m mx ms=>
  cases op<;>simp only[dt] at hc<;>first|cases hc|skip
  rename_i c
  obtain⟨callee,args,argTypes⟩:=c
  split at hc
  ·rename_i t bq
   simp only at bq
   subst bq
   simp only[Bool.and_eq_true] at hc
   simp only[exec] at hx
   split at hx
   ·rename_i f bM hp
    have hfk:ca P f=true:=by
     have gk:=hx
     unfold ph at gk
     split at gk
     ·split at gk
      ·rename_i M hM;exact hF f M hM
      ·cases gk
     ·cases gk
    exact abq r hT hN rfl hfk hc.1 hc.2 hp hx
   ·cases hx
  ·cases hc
end
end Go.Am
