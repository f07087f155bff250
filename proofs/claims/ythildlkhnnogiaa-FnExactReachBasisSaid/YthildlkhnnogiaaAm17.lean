/- Am17: is an operation of the program what the abstract one says? No condition. -/
import Derived.Test.YthildlkhnnogiaaAmR
import Derived.Test.YthildlkhnnogiaaAmX
set_option linter.unusedVariables false
set_option linter.unusedSimpArgs false
namespace Go.Am
def Bi:Option Operand->Option MO->Bool
 |none,none=>true
 |some x,some m=>bd x m
 |_,_=>false
def o8 (P:Program) (t:TypeId) (sz:Nat) (k:TypeInfo->Value->Bool):Bool:=
 match P.underlying t with
 |some (.slice e)=>match P.info? e with
  |some i=>match i.zero with
   |some z=>i.size==sz&&decide (0<sz)&&k i z
   |none=>false
  |none=>false
 |_=>false
theorem qn {P:Program} {t:TypeId} {sz:Nat} {k:TypeInfo->Value->Bool} (h:o8 P t sz k=true):
  ∃e i z,P.underlying t=some (.slice e)/\P.info? e=some i/\i.zero=some z/\i.size=sz/\0<sz/\k i z=true:=by
 unfold o8 at h
 split at h
 ·rename_i e he
  split at h
  ·rename_i i hi
   split at h
   ·rename_i z hz
    simp only[Bool.and_eq_true,beq_iff_eq,decide_eq_true_eq] at h
    exact⟨e,i,z,he,hi,hz,h.1.1,h.1.2,h.2⟩
   ·cases h
  ·cases h
 ·cases h
def Ij (P:Program) (t:TypeId) (zs:List ab):Bool:=
 match P.info? t with
 |some i=>match i.zero with
  |some z=>ta z.cells.toList zs
  |none=>false
 |none=>false
theorem VK {P:Program} {t:TypeId} {zs:List ab} (h:Ij P t zs=true):∃i z,P.info? t=some i/\i.zero=some z/\ta z.cells.toList zs=true:=by
 unfold Ij at h
 split at h
 ·rename_i i hi
  split at h
  ·rename_i z hz;exact⟨i,z,hi,hz,h⟩
  ·cases h
 ·cases h
def VD (P:Program) (t:TypeId) (parts:List (Nat×Operand)) (zs:List ab) (ms:List (Nat×Nat×MO)):Bool:=
 match P.underlying t with
 |some (.struct n7)=>match n7.toList.mapM (fun f=>(P.info? f.type).map fun i=>(f.offset,i.size)) with
  |some places=>Ij P t zs&&yT places parts ms
  |none=>false
 |_=>false
def Ii (P:Program) (t:TypeId) (sz:Nat):Bool:=
 match P.info? t with
 |some i=>i.size==sz&&decide (0<sz)
 |none=>false
def VG (P:Program) (t u:TypeId) (k:IntKind):Bool:=
 match P.underlying t,P.underlying u with
 |some _,some (.int k')=>k==k'
 |_,_=>false
def YB (P:Program) (t:TypeId):Bool:=
 match P.underlying t with
 |some .bool=>true
 |_=>false
def du (P:Program) (o:Oper) (mo:aI):Bool:=
 match mo,o.op with
 |.mv m,.move x=>bd x m
 |.mv m,.assign x=>bd x m
 |.pick c x y,.pick c' x' y'=>bd c' c&&bd x' x&&bd y' y
 |.alloc zs,.alloc e=>Ij P e zs
 |.box sz m,.box e x=>bd x m
 |.build zs ms,.build t parts=>VD P t parts.toList zs ms
 |.fF sz ms,.buildSlice t len parts=>o8 P t sz (fun _ _=>true)&&(ms.length==len)&&decide (parts.toList.map (·.1)=List.range len)&&decide (len*sz<=16777216)&&fx (parts.toList.map (·.2)) ms
 |.load ag sz m,.load t x=>bd x m&&qm P t ag sz
 |.oE ag sz m,.load t x=>bd x m&&qm P t ag sz
 |.store sz mx my,.store t x y=>o.dst.isNone&&bd x mx&&bd y my&&Ii P t sz
 |.oG m,.nilCheck x=>bd x m
 |.bin op mx my,.binOp xP t x y t'=>decide (op=xP)&&bd x mx&&bd y my
 |.oZ op mx my,.binOp xP t x y t'=>decide (op=xP)&&bd x mx&&bd y my&&YB P t
 |.un op mx,.unOp xP t x=>decide (op=xP)&&bd x mx
 |.conv k mx,.convert t u x=>bd x mx&&VG P t u k
 |.lK m sz by_ zs ml mc,.makeSlice t l c=>bd l ml&&bd c mc&&o8 P t sz (fun i z=>(i.bytes==by_)&&decide (0<by_)&&uJ z.cells.toList zs)
 |.slice sz mx JI JH,.slice t x lo hi none=>bd x mx&&Bi lo JI&&Bi hi JH&&o8 P t sz (fun _ _=>true)
 |.tail sz mx ml,.slice t x (some y) none none=>bd x mx&&bd y ml&&o8 P t sz (fun _ _=>true)
 |.aC off mx,.fieldAddr s x f=>bd x mx&&DI P s f off
 |.cH sz mx mi,.indexAddr t x i=>bd x mx&&bd i mi&&o8 P t sz (fun _ _=>true)
 |.ext i mx,.extract x j=>(i==j)&&bd x mx
 |.n8 ag off sz mx,.field s x f=>bd x mx&&Mh P s f off ag sz
 |.nJ f bU mx,.call c=>match c.callee,c.args.toList with
  |.value (.func g),[x]=>(f==g)&&bJ P f&&Ih P f bU&&bd x mx
  |_,_=>false
 |.len mx,.call c=>match c.callee,c.args.toList,c.argTypes.toList with
  |.builtin .len,[x],[t]=>bd x mx&&(match P.underlying t with|some (.slice _)=>true|_=>false)
  |_,_,_=>false
 |.append fl sz by_ mx my,.call c=>match c.callee,c.args.toList,c.argTypes.toList with
  |.builtin .append,[x,y],[t,t']=>(t==t')&&bd x mx&&bd y my&&o8 P t sz (fun i z=>(i.bytes==by_)&&decide (0<by_)&&(z.cells.size==sz))
  |_,_,_=>false
 |.copy sz mx my,.call c=>match c.callee,c.args.toList,c.argTypes.toList with
  |.builtin .copy,[x,y],[t,t']=>(sz==1)&&bd x mx&&bd y my&&o8 P t 1 (fun _ _=>true)
  |_,_,_=>false
 |.kq zc mx,.call c=>match c.callee,c.args.toList,c.argTypes.toList with
  |.builtin .clear,[x],[t]=>bd x mx&&o8 P t 1 (fun _ z=>uJ z.cells.toList [zc])
  |_,_,_=>false
 |.mm b mx my,.call c=>match c.callee,c.args.toList with
  |.builtin .max,[x,y]=>b&&bd x mx&&bd y my
  |.builtin .min,[x,y]=> !b&&bd x mx&&bd y my
  |_,_=>false
 |.call m f ms,.call c=>match c.callee with
  |.value (.func g)=>(f==g)&&bJ P f&&fx c.args.toList ms
  |_=>false
 |.lT f ms,.call c=>match c.callee with
  |.value (.func g)=>(f==g)&&bJ P f&&fx c.args.toList ms
  |_=>false
 |.fN m f ms,.call c=>match c.callee with
  |.value (.func g)=>(f==g)&&bJ P f&&fx c.args.toList ms
  |_=>false
 |.iA f ms,.call c=>match c.callee with
  |.value (.func g)=>(f==g)&&bJ P f&&fx c.args.toList ms
  |_=>false
 |.lW f ms,.call c=>match c.callee with
  |.value (.func g)=>(f==g)&&bJ P f&&fx c.args.toList ms
  |_=>false
 |.lU f ms,.call c=>match c.callee with
  |.value (.func g)=>(f==g)&&bJ P f&&fx c.args.toList ms
  |_=>false
 |.lY m f ms,.call c=>match c.callee with
  |.value (.func g)=>(f==g)&&bJ P f&&fx c.args.toList ms
  |_=>false
 |.nX m f mx ms,.call c=>match c.callee with
  |.value (.tmp t)=>bJ P f&&bd (.tmp t) mx&&fx c.args.toList ms
  |_=>false
 |.pR f ms,.makeFunc (.func g) first xs=>(f==g)&&first.isEmpty&&bJ P f&&fx xs.toList ms
 |.lV m mx ms,.call c=>match c.callee with
  |.value (.tmp t)=>bd (.tmp t) mx&&fx c.args.toList ms
  |_=>false
 |_,_=>false
theorem Ie:∀{xs:List Operand} {ms:List MO},fx xs ms=true->xs.length=ms.length/\∀(j:Nat) (x:Operand) (m:MO),xs[j]? =some x->ms[j]? =some m->bd x m=true
 |[],[],_=>⟨rfl,by simp⟩
 |x::xs,m::ms,hc=>by
  simp only[fx,Bool.and_eq_true] at hc
  obtain⟨i1,i2⟩:=Ie hc.2
  refine⟨by simp[i1],fun j x' m' hj hm=>?_⟩
  cases j with
  |zero=>simp at hj hm;subst hj;subst hm;exact hc.1
  |succ j=>exact i2 j x' m' (by simpa using hj) (by simpa using hm)
 |[],_::_,hc=>by simp[fx] at hc
 |_::_,[],hc=>by simp[fx] at hc
section
variable {B:Nat} {E:Ex} {w0 w w':World} {G G':Gh} {h h':Nat->Option aj} {used used':Nat->Bool} {tk:List PC} {N:Nat}
variable {P:Program} {o:Oper} {a:Act} {σ σ':St} {Q:Exit->Act->World->Prop}
theorem adU (r:R B E w0 N σ a w G) {T:aF} (BJ:A2 P T) {f:FuncId} {ms:List MO} (hN:∀n,o.dst=some n->n<N) (hc:du P o (.lU f ms)=true) (hx:exec T o.dst (.lU f ms) σ=some σ'):o.wp P a w (Nx B E w0 N σ') Q:=by
 obtain⟨dst,op,ty,pos,after,guard⟩:=o
 cases op<;>simp only[du] at hc<;>first|cases hc|skip
 rename_i c
 obtain⟨callee,args,argTypes⟩:=c
 split at hc
 ·rename_i g bA
  simp only at bA
  subst bA
  simp only[Bool.and_eq_true,beq_iff_eq] at hc
  obtain⟨⟨rfl,c1⟩,c2⟩:=hc
  simp only[exec] at hx
  split at hx
  ·rename_i v0 vr
   injection hx with hx
   subst hx
   exact Ws r BJ hN rfl c1 c2 (ac3 vr σ)
  ·cases hx
 ·cases hc
theorem adV (r:R B E w0 N σ a w G) {T:aF} (BK:wH P T) {f:FuncId} {ms:List MO} (hN:∀n,o.dst=some n->n<N) (hc:du P o (.lW f ms)=true) (hx:exec T o.dst (.lW f ms) σ=some σ'):o.wp P a w (Nx B E w0 N σ') Q:=by
 obtain⟨dst,op,ty,pos,after,guard⟩:=o
 cases op<;>simp only[du] at hc<;>first|cases hc|skip
 rename_i c
 obtain⟨callee,args,argTypes⟩:=c
 split at hc
 ·rename_i g bA
  simp only at bA
  subst bA
  simp only[Bool.and_eq_true,beq_iff_eq] at hc
  obtain⟨⟨rfl,c1⟩,c2⟩:=hc
  simp only[exec] at hx
  split at hx
  ·rename_i v0 vr
   injection hx with hx
   subst hx
   exact adx r BK hN rfl c1 c2 vr
  ·cases hx
 ·cases hc
theorem adW (r:R B E w0 N σ a w G) {T:aF} (BK:wH P T) {m:Mode} {f:FuncId} {ms:List MO} (hN:∀n,o.dst=some n->n<N) (hc:du P o (.lY m f ms)=true) (hx:exec T o.dst (.lY m f ms) σ=some σ'):o.wp P a w (Nx B E w0 N σ') Q:=by
 obtain⟨dst,op,ty,pos,after,guard⟩:=o
 cases op<;>simp only[du] at hc<;>first|cases hc|skip
 rename_i c
 obtain⟨callee,args,argTypes⟩:=c
 split at hc
 ·rename_i g bA
  simp only at bA
  subst bA
  simp only[Bool.and_eq_true,beq_iff_eq] at hc
  obtain⟨⟨rfl,c1⟩,c2⟩:=hc
  simp only[exec] at hx
  exact ady r BK hN rfl c1 c2 hx
 ·cases hc
theorem adT (r:R B E w0 N σ a w G) {T:aF} (BJ:A2 P T) {f:FuncId} {ms:List MO} (hN:∀n,o.dst=some n->n<N) (hc:du P o (.iA f ms)=true) (hx:exec T o.dst (.iA f ms) σ=some σ'):o.wp P a w (Nx B E w0 N σ') Q:=by
 obtain⟨dst,op,ty,pos,after,guard⟩:=o
 cases op<;>simp only[du] at hc<;>first|cases hc|skip
 rename_i c
 obtain⟨callee,args,argTypes⟩:=c
 split at hc
 ·rename_i g bA
  simp only at bA
  subst bA
  simp only[Bool.and_eq_true,beq_iff_eq] at hc
  obtain⟨⟨rfl,c1⟩,c2⟩:=hc
  simp only[exec] at hx
  exact Ws r BJ hN rfl c1 c2 hx
 ·cases hc
set_option maxHeartbeats 1000000 in
theorem WA (r:R B E w0 N σ a w G) {T:aF} (hT:yN P T) (Xp:AZ P T) (BJ:A2 P T) (BK:wH P T) (hF:∀f M,aF.find T.pure f=some M->bJ P f=true) {mo:aI} (hN:∀n,o.dst=some n->n<N) (hc:du P o mo=true) (hx:exec T o.dst mo σ=some σ'):
  o.wp P a w (Nx B E w0 N σ') Q:=by
 obtain⟨dst,op,ty,pos,after,guard⟩:=o
 cases mo with
 |mv m=>
  simp only[exec] at hx
  injection hx with hx
  subst hx
  cases op<;>simp only[du] at hc<;>first|cases hc|skip
  ·exact Wy r (.inl rfl) hN hc
  ·exact Wy r (.inr rfl) hN hc
 |pick c x y=>
  cases op<;>simp only[du] at hc<;>first|cases hc|skip
  rename_i c' x' y'
  simp only[Bool.and_eq_true] at hc
  simp only[exec] at hx
  split at hx
  ·rename_i b hb
   have:=adX (P:=P) (Q:=Q) r (o:=⟨dst,.pick c' x' y',ty,pos,after,guard⟩) rfl hN hc.1.1 hc.1.2 hc.2 hb
   cases b<;>simp at hx<;>subst hx<;>exact this
  ·cases hx
 |alloc zs=>
  cases op<;>simp only[du] at hc<;>first|cases hc|skip
  obtain⟨i,z,h1,h2,h3⟩:=VK hc
  simp only[exec] at hx
  split at hx
  ·rename_i n
   split at hx
   ·rename_i σ1 hi
    injection hx with hx
    subst hx
    exact adh r rfl rfl (hN n rfl) h1 h2 h3 hi
   ·cases hx
  ·cases hx
 |box sz m=>
  cases op<;>simp only[du] at hc<;>first|cases hc|skip
  simp only[exec] at hx
  split at hx
  ·rename_i n ag cs dm
   split at hx
   ·split at hx
    ·rename_i σ1 hi
     injection hx with hx
     subst hx
     exact adm r rfl rfl (hN _ rfl) hc dm hi
    ·cases hx
   ·cases hx
  ·cases hx
 |build zs ms=>
  cases op<;>simp only[du] at hc<;>first|cases hc|skip
  simp only[exec] at hx
  split at hx
  ·rename_i cs dm
   injection hx with hx
   subst hx
   unfold VD at hc
   split at hc
   ·rename_i n7 hu
    split at hc
    ·rename_i places dz
     simp only[Bool.and_eq_true] at hc
     obtain⟨i,z,h1,h2,h3⟩:=VK hc.1
     exact adq r rfl hN h1 h2 hu dz h3 hc.2 dm
    ·cases hc
   ·cases hc
  ·cases hx
 |fF sz ms=>
  cases op<;>simp only[du] at hc<;>first|cases hc|skip
  simp only[Bool.and_eq_true,beq_iff_eq,decide_eq_true_eq] at hc
  obtain⟨⟨⟨⟨c1,c2⟩,c3⟩,c4⟩,c5⟩:=hc
  obtain⟨e,i,z,h1,h2,h3,h4,h5,_⟩:=qn c1
  simp only[exec] at hx
  split at hx
  ·rename_i n es ow σ1 kz
   split at hx
   ·rename_i σ2 hi
    injection hx with hx
    subst hx
    refine adn r rfl rfl (hN _ rfl) h1 h2 h3 h4 h5 c2 c3 c4 (fun j p m hp hm=>?_) kz hi
    exact(Ie c5).2 j p.2 m (by simp[hp]) hm
   ·cases hx
  ·cases hx
 |load ag sz m=>
  cases op<;>simp only[du] at hc<;>first|cases hc|skip
  simp only[Bool.and_eq_true] at hc
  simp only[exec] at hx
  split at hx
  ·rename_i p hp
   split at hx
   ·rename_i cs dm
    injection hx with hx
    subst hx
    exact Wx r rfl hN hc.1 hc.2 hp dm
   ·cases hx
  ·cases hx
 |oE ag sz m=>
  cases op<;>simp only[du] at hc<;>first|cases hc|skip
  simp only[Bool.and_eq_true] at hc
  simp only[exec] at hx
  split at hx
  ·rename_i p hp
   split at hx
   ·rename_i σ1 hf
    split at hx
    ·rename_i cs dm
     injection hx with hx
     subst hx
     exact adO r rfl hN hc.1 hc.2 hp hf dm
    ·cases hx
   ·cases hx
  ·cases hx
 |store sz mx my=>
  cases op<;>simp only[du] at hc<;>first|cases hc|skip
  simp only[Bool.and_eq_true] at hc
  obtain⟨⟨⟨c0,c1⟩,c2⟩,c3⟩:=hc
  have hd:dst=none:=by simpa using c0
  unfold Ii at c3
  split at c3
  ·rename_i i hi
   simp only[Bool.and_eq_true,beq_iff_eq,decide_eq_true_eq] at c3
   simp only[exec] at hx
   split at hx
   ·rename_i n k au off ag vs hp hv
    split at hx
    ·rename_i hl
     split at hx
     ·rename_i cs hn
      split at hx
      ·rename_i hk
       injection hx with hx
       subst hx
       exact adZ r rfl hd c1 c2 hi c3.1 c3.2 hp hv hl hn hk.1 hk.2
      ·cases hx
     ·rename_i gr m rs xs hn
      split at hx
      ·rename_i lA
       subst lA
       split at hx
       ·rename_i el jI
        exact ad3 r rfl hd c1 c2 hi c3.1 c3.2 hp hv hl hn jI hx
       ·cases hx
      ·cases hx
     ·cases hx
    ·cases hx
   ·rename_i n k au off s i ag vs hp hv
    split at hx
    ·rename_i hl
     split at hx
     ·rename_i gr rs xs hn
      split at hx
      ·rename_i lA
       subst lA
       split at hx
       ·rename_i ak lB
        injection hx with hx
        subst hx
        exact ad0 r rfl hd c1 c2 hi c3.1 c3.2 hp hv hl hn rfl lB
       ·cases hx
      ·cases hx
     ·cases hx
    ·cases hx
   ·cases hx
  ·cases c3
 |oG m=>
  cases op<;>simp only[du] at hc<;>first|cases hc|skip
  simp only[exec] at hx
  split at hx
  ·rename_i n k sz off hp
   split at hx
   ·rename_i hn
    injection hx with hx
    subst hx
    rw[<-hp]
    exact MR r rfl hN hc (.inl ⟨_,_,_,_,hp,hn⟩)
   ·cases hx
  ·rename_i xs off hp
   injection hx with hx
   subst hx
   rw[<-hp]
   exact MR r rfl hN hc (.inr (.inl ⟨_,_,hp⟩))
  ·rename_i xs off j n s len hp
   injection hx with hx
   subst hx
   rw[<-hp]
   exact MR r rfl hN hc (.inr (.inr ⟨_,_,_,_,_,_,hp⟩))
  ·cases hx
 |bin xP mx my=>
  cases op<;>simp only[du] at hc<;>first|cases hc|skip
  simp only[Bool.and_eq_true,decide_eq_true_eq] at hc
  obtain⟨⟨rfl,c1⟩,c2⟩:=hc
  simp only[exec] at hx
  split at hx
  ·rename_i c hb
   injection hx with hx
   subst hx
   exact adk r rfl hN c1 c2 hb
  ·cases hx
 |oZ xP mx my=>
  cases op<;>simp only[du] at hc<;>first|cases hc|skip
  simp only[Bool.and_eq_true,decide_eq_true_eq] at hc
  obtain⟨⟨⟨rfl,c1⟩,c2⟩,c3⟩:=hc
  unfold YB at c3
  split at c3
  ·rename_i ht
   simp only[exec] at hx
   split at hx
   ·rename_i c hb
    injection hx with hx
    subst hx
    exact adl r rfl hN c1 c2 ht hb
   ·cases hx
  ·cases c3
 |un xP mx=>
  cases op<;>simp only[du] at hc<;>first|cases hc|skip
  simp only[Bool.and_eq_true,decide_eq_true_eq] at hc
  obtain⟨rfl,c1⟩:=hc
  simp only[exec] at hx
  split at hx
  ·rename_i c hb
   injection hx with hx
   subst hx
   exact ad6 r rfl hN c1 hb
  ·cases hx
 |conv k mx=>
  cases op<;>simp only[du] at hc<;>first|cases hc|skip
  simp only[Bool.and_eq_true] at hc
  obtain⟨c1,c2⟩:=hc
  unfold VG at c2
  split at c2
  ·rename_i d k' ht hu
   have hk:k=k':=by simpa using c2
   subst hk
   simp only[exec] at hx
   split at hx
   ·rename_i k2 n hb
    injection hx with hx
    subst hx
    exact adA r rfl hN c1 ht hu hb
   ·cases hx
  ·cases c2
 |lK m sz by_ zs ml mc=>
  cases op<;>simp only[du] at hc<;>first|cases hc|skip
  simp only[Bool.and_eq_true] at hc
  obtain⟨⟨c1,c2⟩,c3⟩:=hc
  obtain⟨e,i,z,h1,h2,h3,h4,h5,h6⟩:=qn c3
  simp only[Bool.and_eq_true,beq_iff_eq,decide_eq_true_eq] at h6
  simp only[exec] at hx
  split at hx
  ·rename_i n q q' hq db
   split at hx
   ·rename_i bR
    obtain⟨k1,k2,k3,k4⟩:=bR
    split at hx
    ·rename_i σ1 hi
     injection hx with hx
     subst hx
     exact adQ r rfl rfl (hN _ rfl) c1 c2 h1 h2 h3 h4 h6.1.1 h6.1.2 h5 h6.2 hq db k1 k2 k3 k4 hi
    ·cases hx
   ·cases hx
  ·cases hx
 |slice sz mx JI JH=>
  cases op<;>simp only[du] at hc<;>first|cases hc|skip
  rename_i t x lo hi mm
  cases mm<;>simp only[du] at hc<;>first|cases hc|skip
  simp only[Bool.and_eq_true] at hc
  obtain⟨⟨⟨c1,c2⟩,c3⟩,c4⟩:=hc
  obtain⟨e,i,z,h1,h2,h3,h4,h5,_⟩:=qn c4
  have pt:∀l,(match JI with|none=>some 0|some l=>(σ.ev l).cJ)=some l->(lo=none/\l=0)\/∃y my,lo=some y/\bd y my=true/\(σ.ev my).cJ=some l:=by
   intro l hl
   cases JI with
   |none=>cases lo<;>simp[Bi] at c2;simp at hl;exact .inl ⟨rfl,hl.symm⟩
   |some my=>cases lo<;>simp[Bi] at c2;exact .inr ⟨_,my,rfl,c2,hl⟩
  have ve:∀(len:Nat) hh,(match JH with|none=>some (len:Int)|some h=>(σ.ev h).cJ)=some hh->(hi=none/\hh=len)\/∃y my,hi=some y/\bd y my=true/\(σ.ev my).cJ=some hh:=by
   intro len l hl
   cases JH with
   |none=>cases hi<;>simp[Bi] at c3;simp at hl;exact .inl ⟨rfl,hl.symm⟩
   |some my=>cases hi<;>simp[Bi] at c3;exact .inr ⟨_,my,rfl,c3,hl⟩
  simp only[exec] at hx
  split at hx
  ·rename_i n s l0 len l hp hl
   split at hx
   ·rename_i hh Ok
    split at hx
    ·rename_i bR
     obtain⟨rfl,k1,k2,k3,k4⟩:=bR
     injection hx with hx
     subst hx
     exact WB r rfl hN c1 h1 h2 h4 h5 (pt l hl) (ve len hh Ok) k1 k2 k3 (.inl ⟨n,l0,hp,k4,rfl⟩)
    ·cases hx
   ·cases hx
  ·rename_i s xs l hp hl
   split at hx
   ·rename_i hh Ok
    split at hx
    ·rename_i bR
     obtain⟨rfl,k1,k2,k3⟩:=bR
     injection hx with hx
     subst hx
     exact WB r rfl hN c1 h1 h2 h4 h5 (pt l hl) (ve xs.length hh Ok) k1 k2 k3 (.inr ⟨xs,hp,rfl,rfl⟩)
    ·cases hx
   ·cases hx
  ·cases hx
 |tail sz mx ml=>
  cases op<;>simp only[du] at hc<;>first|cases hc|skip
  rename_i t x lo hi mm
  cases mm<;>cases hi<;>cases lo<;>simp only[du] at hc<;>first|cases hc|skip
  rename_i y
  simp only[Bool.and_eq_true] at hc
  obtain⟨⟨c1,c2⟩,c4⟩:=hc
  obtain⟨e,i,z,h1,h2,h3,h4,h5,_⟩:=qn c4
  simp only[exec] at hx
  split at hx
  ·rename_i n a0 s len l hp hl
   split at hx
   ·rename_i m rs xs hn
    split at hx
    ·rename_i bR
     obtain⟨rfl,rfl,rfl,k1,k2⟩:=bR
     split at hx
     ·rename_i σ1 e1
      injection hx with hx
      subst hx
      exact ad4 r rfl rfl (hN _ rfl) c1 c2 h1 h2 h4 h5 hp hl k1 k2 hn e1
     ·cases hx
    ·cases hx
   ·cases hx
  ·cases hx
 |aC off mx=>
  cases op<;>simp only[du] at hc<;>first|cases hc|skip
  simp only[Bool.and_eq_true] at hc
  simp only[exec] at hx
  split at hx
  ·rename_i n k sz q hp
   split at hx
   ·rename_i hn
    injection hx with hx
    subst hx
    exact MP r rfl hN hc.1 hc.2 (.inl ⟨_,_,_,_,hp,hn,rfl⟩)
   ·cases hx
  ·rename_i xs q hp
   injection hx with hx
   subst hx
   exact MP r rfl hN hc.1 hc.2 (.inr (.inl ⟨_,_,hp,rfl⟩))
  ·rename_i xs q j n s len hp
   injection hx with hx
   subst hx
   exact MP r rfl hN hc.1 hc.2 (.inr (.inr ⟨_,_,_,_,_,_,hp,rfl⟩))
  ·cases hx
 |cH sz mx mi=>
  cases op<;>simp only[du] at hc<;>first|cases hc|skip
  simp only[Bool.and_eq_true] at hc
  obtain⟨⟨c1,c2⟩,c3⟩:=hc
  obtain⟨e,i,z,h1,h2,h3,h4,h5,_⟩:=qn c3
  simp only[exec] at hx
  split at hx
  ·rename_i n s lo len k hp hk
   split at hx
   ·rename_i bR
    obtain⟨rfl,k1,k2,k3⟩:=bR
    injection hx with hx
    subst hx
    exact Wv r rfl hN c1 c2 h1 h2 h4 hk k1 (.inl ⟨_,_,_,hp,k2,k3,rfl⟩)
   ·cases hx
  ·rename_i s xs k hp hk
   split at hx
   ·rename_i bR
    obtain⟨rfl,k1⟩:=bR
    split at hx
    ·rename_i el jI
     injection hx with hx
     subst hx
     exact Wv r rfl hN c1 c2 h1 h2 h4 hk k1 (.inr ⟨_,_,hp,jI,rfl⟩)
    ·cases hx
   ·cases hx
  ·rename_i n kk au off s len k hp hk
   split at hx
   ·rename_i s' ys EN
    split at hx
    ·rename_i bR
     obtain⟨rfl,k1,k2⟩:=bR
     injection hx with hx
     subst hx
     exact adM r rfl hN c1 c2 h1 h2 h4 hk k1 k2 hp EN
    ·cases hx
   ·cases hx
  ·cases hx
 |ext i mx=>
  cases op<;>simp only[du] at hc<;>first|cases hc|skip
  simp only[Bool.and_eq_true,beq_iff_eq] at hc
  obtain⟨rfl,c1⟩:=hc
  simp only[exec] at hx
  split at hx
  ·rename_i xs hp
   split at hx
   ·rename_i ag cs dm
    injection hx with hx
    subst hx
    refine adK r rfl hN c1 hp dm fun bu=>?_
    subst bu
    obtain⟨y1,_⟩:=r.ev c1
    rw[hp] at y1
    obtain⟨vs,_,hl,hv⟩:=y1
    have hi:i<vs.length:=by rw[hl];exact(List.getElem?_eq_some_iff.1 dm).1
    have:cb w G σ.h cs [vs[i]]:=hv i (false,cs) vs[i] dm (List.getElem?_eq_getElem hi)
    exact List.length_eq_one_iff.1 this.1.symm
   ·cases hx
  ·cases hx
 |n8 ag off sz mx=>
  cases op<;>simp only[du] at hc<;>first|cases hc|skip
  simp only[Bool.and_eq_true] at hc
  simp only[exec] at hx
  split at hx
  ·rename_i cs hp
   split at hx
   ·rename_i l hl
    injection hx with hx
    subst hx
    exact adL r rfl hN hc.1 hc.2 hp hl
   ·cases hx
  ·cases hx
 |nJ f bU mx=>
  cases op<;>simp only[du] at hc<;>first|cases hc|skip
  rename_i c
  obtain⟨cal,args,Vr⟩:=c
  simp only at hc
  split at hc
  ·rename_i g x pn
   simp only[Bool.and_eq_true,beq_iff_eq] at hc
   obtain⟨⟨⟨hfg,c1⟩,c2⟩,c3⟩:=hc
   subst hfg
   have ea:args=#[x]:=by apply Array.ext';simpa using pn
   subst ea
   simp only[exec] at hx
   split at hx
   ·rename_i n sz lo len hp
    split at hx
    ·rename_i hs
     injection hx with hx
     subst hx
     exact MS r hN rfl c1 c2 c3 hp (.inl ⟨n,sz,lo,rfl,hs⟩)
    ·cases hx
   ·rename_i sz xs hp
    injection hx with hx
    subst hx
    exact MS r hN rfl c1 c2 c3 hp (.inr (.inl ⟨sz,xs,rfl,rfl⟩))
   ·rename_i sz hp
    injection hx with hx
    subst hx
    exact MS r (len:=0) hN rfl c1 c2 c3 hp (.inr (.inr ⟨sz,rfl,rfl⟩))
   ·cases hx
  ·cases hc
 |len mx=>
  cases op<;>simp only[du] at hc<;>first|cases hc|skip
  rename_i c
  obtain⟨callee,args,argTypes⟩:=c
  split at hc
  ·rename_i x t bA ha ht
   simp only at bA ha ht
   subst bA
   have rQ:args=#[x]:=by apply Array.ext';exact ha
   have zD:argTypes=#[t]:=by apply Array.ext';exact ht
   subst rQ zD
   simp only[Bool.and_eq_true] at hc
   obtain⟨c1,c2⟩:=hc
   split at c2
   ·rename_i e hu
    simp only[exec] at hx
    split at hx
    ·rename_i n sz lo len hp
     split at hx
     ·rename_i hn
      injection hx with hx
      subst hx
      exact IB r rfl hN c1 hu (.inl ⟨_,_,_,hp,hn⟩)
     ·cases hx
    ·rename_i sz xs hp
     injection hx with hx
     subst hx
     exact IB r rfl hN c1 hu (.inr (.inl ⟨_,_,hp,rfl⟩))
    ·rename_i sz hp
     injection hx with hx
     subst hx
     exact IB r rfl hN c1 hu (.inr (.inr (.inl ⟨_,hp,rfl⟩)))
    ·rename_i n k au off sz len hp
     split at hx
     ·rename_i s ys lC
      injection hx with hx
      subst hx
      exact IB r rfl hN c1 hu (.inr (.inr (.inr ⟨_,_,_,_,_,_,_,_,hp,lC,rfl⟩)))
     ·cases hx
    ·cases hx
   ·cases c2
  ·cases hc
 |append fl sz by_ mx my=>
  cases op<;>simp only[du] at hc<;>first|cases hc|skip
  rename_i c
  obtain⟨callee,args,argTypes⟩:=c
  split at hc
  ·rename_i x y t t' bA ha ht
   simp only at bA ha ht
   subst bA
   have rQ:args=#[x,y]:=by apply Array.ext';exact ha
   have zD:argTypes=#[t,t']:=by apply Array.ext';exact ht
   subst rQ zD
   simp only[Bool.and_eq_true,beq_iff_eq] at hc
   obtain⟨⟨⟨rfl,c1⟩,c2⟩,c3⟩:=hc
   obtain⟨e,i,z,h1,h2,h3,h4,h5,h6⟩:=qn c3
   simp only[Bool.and_eq_true,beq_iff_eq,decide_eq_true_eq] at h6
   simp only[exec] at hx
   split at hx
   ·cases hx
   ·rename_i n
    split at hx
    ·cases hx
    ·rename_i xs m σ1 hl
     split at hx
     ·cases hx
     ·rename_i ys m2 σ2 hr
      split at hx
      ·rename_i hb
       split at hx
       ·rename_i fE hi
        injection hx with hx
        subst hx
        exact adj r rfl rfl (hN _ rfl) c1 c2 h1 h2 h3 h4 h5 h6.1.1 h6.1.2 h6.2 hl hr hb hi
       ·cases hx
      ·cases hx
  ·cases hc
 |copy sz mx my=>
  cases op<;>simp only[du] at hc<;>first|cases hc|skip
  rename_i c
  obtain⟨callee,args,argTypes⟩:=c
  split at hc
  ·rename_i x y t t' bA ha ht
   simp only at bA ha ht
   subst bA
   have rQ:args=#[x,y]:=by apply Array.ext';exact ha
   have zD:argTypes=#[t,t']:=by apply Array.ext';exact ht
   subst rQ zD
   simp only[Bool.and_eq_true,beq_iff_eq] at hc
   obtain⟨⟨⟨c0,c1⟩,c2⟩,c3⟩:=hc
   obtain⟨e,i,z,h1,h2,h3,h4,h5,_⟩:=qn c3
   simp only[exec] at hx
   split at hx
   ·rename_i n s lo len cc hp hq
    split at hx
    ·rename_i gr m rs xs s' ys hn hv
     split at hx
     ·rename_i bR
      obtain⟨rfl,rfl,rfl,rfl,k1,k2,k3,k4⟩:=bR
      injection hx with hx
      subst hx
      exact adC r rfl hN c1 c2 h1 h2 h4 hp hq hn hv k1 k2 k3 k4
     ·cases hx
    ·cases hx
   ·cases hx
  ·cases hc
 |kq zc mx=>
  cases op<;>simp only[du] at hc<;>first|cases hc|skip
  rename_i c
  obtain⟨callee,args,argTypes⟩:=c
  split at hc
  ·rename_i x t bA ha ht
   simp only at bA ha ht
   subst bA
   have rQ:args=#[x]:=by apply Array.ext';exact ha
   have zD:argTypes=#[t]:=by apply Array.ext';exact ht
   subst rQ zD
   simp only[Bool.and_eq_true] at hc
   obtain⟨c1,c3⟩:=hc
   obtain⟨e,i,z,h1,h2,h3,h4,h5,h6⟩:=qn c3
   simp only[exec] at hx
   split at hx
   ·rename_i n s lo len hp
    split at hx
    ·rename_i gr m rs xs hn
     split at hx
     ·rename_i bR
      obtain⟨rfl,rfl,k0,k1,k2,k3⟩:=bR
      injection hx with hx
      subst hx
      exact adz r rfl hN c1 h1 h2 h3 h6 k0 hp hn k1 k2 k3
     ·cases hx
    ·cases hx
   ·cases hx
  ·cases hc
 |mm b mx my=>
  cases op<;>simp only[du] at hc<;>first|cases hc|skip
  rename_i c
  obtain⟨callee,args,argTypes⟩:=c
  have bW:∀x y,callee=.builtin (if b=true then .max else .min)->args=#[x,y]->bd x mx=true->bd y my=true->
    Oper.wp P ⟨dst,.call ⟨callee,args,argTypes⟩,ty,pos,after,guard⟩ a w (Nx B E w0 N σ') Q:=by
   intro x y bA ha c1 c2
   subst bA ha
   simp only[exec] at hx
   split at hx
   ·rename_i k n k' m h1 h2
    have:=adR (P:=P) (Q:=Q) (mx':=b) r (o:=⟨dst,.call ⟨.builtin (if b=true then .max else .min),#[x,y],argTypes⟩,ty,pos,after,guard⟩) rfl hN c1 c2 h1 h2
    cases b
    ·simp at hx this
     split at hx<;>(rename_i bS;injection hx with hx;subst hx;simpa[bS] using this)
    ·simp at hx this
     split at hx<;>(rename_i bS;injection hx with hx;subst hx;simpa[bS] using this)
   ·cases hx
  split at hc
  ·rename_i x y bA ha
   simp only[Bool.and_eq_true] at hc
   obtain⟨⟨rfl,c1⟩,c2⟩:=hc
   exact bW x y bA (by apply Array.ext';exact ha) c1 c2
  ·rename_i x y bA ha
   simp only[Bool.and_eq_true,Bool.not_eq_true'] at hc
   obtain⟨⟨rfl,c1⟩,c2⟩:=hc
   exact bW x y bA (by apply Array.ext';exact ha) c1 c2
  ·cases hc
 |call m f ms=>
  cases op<;>simp only[du] at hc<;>first|cases hc|skip
  rename_i c
  obtain⟨callee,args,argTypes⟩:=c
  split at hc
  ·rename_i g bA
   simp only at bA
   subst bA
   simp only[Bool.and_eq_true,beq_iff_eq] at hc
   obtain⟨⟨rfl,c1⟩,c2⟩:=hc
   exact ads r hT hN rfl c1 c2 hx
  ·cases hc
 |lT f ms=>
  cases op<;>simp only[du] at hc<;>first|cases hc|skip
  rename_i c
  obtain⟨callee,args,argTypes⟩:=c
  split at hc
  ·rename_i g bA
   simp only at bA
   subst bA
   simp only[Bool.and_eq_true,beq_iff_eq] at hc
   obtain⟨⟨rfl,c1⟩,c2⟩:=hc
   simp only[exec] at hx
   split at hx
   ·rename_i z hz
    injection hx with hx
    subst hx
    exact adt r hT hN rfl c1 c2 hz
   ·cases hx
  ·cases hc
 |fN m f ms=>
  cases op<;>simp only[du] at hc<;>first|cases hc|skip
  rename_i c
  obtain⟨callee,args,argTypes⟩:=c
  split at hc
  ·rename_i g bA
   simp only at bA
   subst bA
   simp only[Bool.and_eq_true,beq_iff_eq] at hc
   obtain⟨⟨rfl,c1⟩,c2⟩:=hc
   simp only[exec] at hx
   exact adu r Xp hN rfl c1 c2 hx
  ·cases hc
 |iA f ms=>exact adT r BJ hN hc hx
 |lW f ms=>exact adV r BK hN hc hx
 |lU f ms=>exact adU r BJ hN hc hx
 |lY m f ms=>exact adW r BK hN hc hx
 |nX m f mx ms=>
  cases op<;>simp only[du] at hc<;>first|cases hc|skip
  rename_i c
  obtain⟨callee,args,argTypes⟩:=c
  split at hc
  ·rename_i t bA
   simp only at bA
   subst bA
   simp only[Bool.and_eq_true] at hc
   simp only[exec] at hx
   split at hx
   ·rename_i g bI hp
    split at hx
    ·rename_i hg
     subst hg
     exact adw r Xp hN rfl hc.1.1 hc.1.2 hc.2 hp hx
    ·cases hx
   ·cases hx
  ·cases hc
 |pR f ms=>
  cases op<;>simp only[du] at hc<;>first|cases hc|skip
  rename_i fn first xs
  cases fn<;>simp only at hc<;>first|cases hc|skip
  simp only[Bool.and_eq_true,beq_iff_eq] at hc
  obtain⟨⟨⟨rfl,c0⟩,c1⟩,c2⟩:=hc
  have hf0:first=#[]:=by simpa using c0
  subst hf0
  obtain⟨g1,g2⟩:=Ie c2
  simp only[exec] at hx
  split at hx
  ·rename_i cs dm
   split at hx
   ·rename_i hj
    injection hx with hx
    subst hx
    exact adP r rfl hN ⟨by simpa using g1.symm,g2⟩ dm (fun c hc eg=>by
     have:=List.all_eq_true.1 hj c hc
     subst eg
     simp[ab.Fy] at this)
   ·cases hx
  ·cases hx
 |lV m mx ms=>
  cases op<;>simp only[du] at hc<;>first|cases hc|skip
  rename_i c
  obtain⟨callee,args,argTypes⟩:=c
  split at hc
  ·rename_i t bA
   simp only at bA
   subst bA
   simp only[Bool.and_eq_true] at hc
   simp only[exec] at hx
   split at hx
   ·rename_i f bI hp
    have hfk:bJ P f=true:=by
     have eZ:=hx
     unfold rL at eZ
     split at eZ
     ·split at eZ
      ·rename_i M hM;exact hF f M hM
      ·cases eZ
     ·cases eZ
    exact adv r hT hN rfl hfk hc.1 hc.2 hp hx
   ·cases hx
  ·cases hc
end
end Go.Am
