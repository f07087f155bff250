/- Am17: is an operation of the program what the abstract one says? No condition. -/
import Derived.Test.YtifmggmhdcdgbaaAmR
import Derived.Test.YtifmggmhdcdgbaaAmV
set_option linter.unusedVariables false
set_option linter.unusedSimpArgs false
namespace Go.Am
def zt:Option Operand->Option MO->Bool
 |none,none=>true
 |some x,some m=>bx x m
 |_,_=>false
def r7 (P:Program) (t:TypeId) (sz:Nat) (k:TypeInfo->Value->Bool):Bool:=
 match P.underlying t with
 |some (.slice e)=>match P.info? e with
  |some i=>match i.zero with
   |some z=>i.size==sz&&decide (0<sz)&&k i z
   |none=>false
  |none=>false
 |_=>false
theorem vj {P:Program} {t:TypeId} {sz:Nat} {k:TypeInfo->Value->Bool} (h:r7 P t sz k=true):
  ∃e i z,P.underlying t=some (.slice e)/\P.info? e=some i/\i.zero=some z/\i.size=sz/\0<sz/\k i z=true:=by
 unfold r7 at h
 split at h
 ·rename_i e he
  split at h
  ·rename_i i hi
   split at h
   ·rename_i z hz
    simp only[Bool.and_eq_true,beq_iff_eq,decide_eq_true_eq] at h
    exact⟨e,i,z,he,hi,hz,h.1.1,h.1.2,h.2⟩
   ·cases h
  ·cases h
 ·cases h
def Gt (P:Program) (t:TypeId) (zs:List ah):Bool:=
 match P.info? t with
 |some i=>match i.zero with
  |some z=>r5 z.cells.toList zs
  |none=>false
 |none=>false
theorem Uj {P:Program} {t:TypeId} {zs:List ah} (h:Gt P t zs=true):∃i z,P.info? t=some i/\i.zero=some z/\r5 z.cells.toList zs=true:=by
 unfold Gt at h
 split at h
 ·rename_i i hi
  split at h
  ·rename_i z hz;exact⟨i,z,hi,hz,h⟩
  ·cases h
 ·cases h
def Ud (P:Program) (t:TypeId) (parts:List (Nat×Operand)) (zs:List ah) (ms:List (Nat×Nat×MO)):Bool:=
 match P.underlying t with
 |some (.struct nV)=>match nV.toList.mapM (fun f=>(P.info? f.type).map fun i=>(f.offset,i.size)) with
  |some places=>Gt P t zs&&xk places parts ms
  |none=>false
 |_=>false
def Ui (P:Program) (t:TypeId) (sz:Nat):Bool:=
 match P.info? t with
 |some i=>i.size==sz&&decide (0<sz)
 |none=>false
def Uf (P:Program) (t u:TypeId) (k:IntKind):Bool:=
 match P.underlying t,P.underlying u with
 |some _,some (.int k')=>k==k'
 |_,_=>false
def W9 (P:Program) (t:TypeId):Bool:=
 match P.underlying t with
 |some .bool=>true
 |_=>false
def eM (P:Program) (o:Oper) (mo:aD):Bool:=
 match mo,o.op with
 |.mv m,.move x=>bx x m
 |.mv m,.assign x=>bx x m
 |.pick c x y,.pick c' x' y'=>bx c' c&&bx x' x&&bx y' y
 |.alloc zs,.alloc e=>Gt P e zs
 |.box sz m,.box e x=>bx x m
 |.build zs ms,.build t parts=>Ud P t parts.toList zs ms
 |.d8 sz ms,.buildSlice t len parts=>r7 P t sz (fun _ _=>true)&&(ms.length==len)&&decide (parts.toList.map (·.1)=List.range len)&&decide (len*sz<=16777216)&&iw (parts.toList.map (·.2)) ms
 |.load ag sz m,.load t x=>bx x m&&r6 P t ag sz
 |.store sz mx my,.store t x y=>o.dst.isNone&&bx x mx&&bx y my&&Ui P t sz
 |.oy m,.nilCheck x=>bx x m
 |.bin op mx my,.binOp wk t x y t'=>decide (op=wk)&&bx x mx&&bx y my
 |.oO op mx my,.binOp wk t x y t'=>decide (op=wk)&&bx x mx&&bx y my&&W9 P t
 |.un op mx,.unOp wk t x=>decide (op=wk)&&bx x mx
 |.conv k mx,.convert t u x=>bx x mx&&Uf P t u k
 |.kB m sz by_ zs ml mc,.makeSlice t l c=>bx l ml&&bx c mc&&r7 P t sz (fun i z=>(i.bytes==by_)&&decide (0<by_)&&tx z.cells.toList zs)
 |.slice sz mx H9 H7,.slice t x lo hi none=>bx x mx&&zt lo H9&&zt hi H7&&r7 P t sz (fun _ _=>true)
 |.tail sz mx ml,.slice t x (some y) none none=>bx x mx&&bx y ml&&r7 P t sz (fun _ _=>true)
 |.ak off mx,.fieldAddr s x f=>bx x mx&&Gp P s f off
 |.bT sz mx mi,.indexAddr t x i=>bx x mx&&bx i mi&&r7 P t sz (fun _ _=>true)
 |.ext i mx,.extract x j=>(i==j)&&bx x mx
 |.nf ag off sz mx,.field s x f=>bx x mx&&KI P s f off ag sz
 |.mU f bM mx,.call c=>match c.callee,c.args.toList with
  |.value (.func g),[x]=>(f==g)&&bF P f&&Gs P f bM&&bx x mx
  |_,_=>false
 |.len mx,.call c=>match c.callee,c.args.toList,c.argTypes.toList with
  |.builtin .len,[x],[t]=>bx x mx&&(match P.underlying t with|some (.slice _)=>true|_=>false)
  |_,_,_=>false
 |.append fl sz by_ mx my,.call c=>match c.callee,c.args.toList,c.argTypes.toList with
  |.builtin .append,[x,y],[t,t']=>(t==t')&&bx x mx&&bx y my&&r7 P t sz (fun i z=>(i.bytes==by_)&&decide (0<by_)&&(z.cells.size==sz))
  |_,_,_=>false
 |.copy sz mx my,.call c=>match c.callee,c.args.toList,c.argTypes.toList with
  |.builtin .copy,[x,y],[t,t']=>(sz==1)&&bx x mx&&bx y my&&r7 P t 1 (fun _ _=>true)
  |_,_,_=>false
 |.kN zc mx,.call c=>match c.callee,c.args.toList,c.argTypes.toList with
  |.builtin .clear,[x],[t]=>bx x mx&&r7 P t 1 (fun _ z=>tx z.cells.toList [zc])
  |_,_,_=>false
 |.mm b mx my,.call c=>match c.callee,c.args.toList with
  |.builtin .max,[x,y]=>b&&bx x mx&&bx y my
  |.builtin .min,[x,y]=> !b&&bx x mx&&bx y my
  |_,_=>false
 |.call m f ms,.call c=>match c.callee with
  |.value (.func g)=>(f==g)&&bF P f&&iw c.args.toList ms
  |_=>false
 |.mr f ms,.call c=>match c.callee with
  |.value (.func g)=>(f==g)&&bF P f&&iw c.args.toList ms
  |_=>false
 |.e9 m f ms,.call c=>match c.callee with
  |.value (.func g)=>(f==g)&&bF P f&&iw c.args.toList ms
  |_=>false
 |.jv f ms,.call c=>match c.callee with
  |.value (.func g)=>(f==g)&&bF P f&&iw c.args.toList ms
  |_=>false
 |.pt f ms,.makeFunc (.func g) first xs=>(f==g)&&first.isEmpty&&bF P f&&iw xs.toList ms
 |.mw m mx ms,.call c=>match c.callee with
  |.value (.tmp t)=>bx (.tmp t) mx&&iw c.args.toList ms
  |_=>false
 |_,_=>false
theorem KJ:∀{xs:List Operand} {ms:List MO},iw xs ms=true->xs.length=ms.length/\∀(j:Nat) (x:Operand) (m:MO),xs[j]? =some x->ms[j]? =some m->bx x m=true
 |[],[],_=>⟨rfl,by simp⟩
 |x::xs,m::ms,hc=>by
  simp only[iw,Bool.and_eq_true] at hc
  obtain⟨i1,i2⟩:=KJ hc.2
  refine⟨by simp[i1],fun j x' m' hj hm=>?_⟩
  cases j with
  |zero=>simp at hj hm;subst hj;subst hm;exact hc.1
  |succ j=>exact i2 j x' m' (by simpa using hj) (by simpa using hm)
 |[],_::_,hc=>by simp[iw] at hc
 |_::_,[],hc=>by simp[iw] at hc
section
variable {B:Nat} {E:Ex} {w0 w w':World} {G G':Gh} {h h':Nat->Option aq} {used used':Nat->Bool} {tk:List PC} {N:Nat}
variable {P:Program} {o:Oper} {a:Act} {σ σ':St} {Q:Exit->Act->World->Prop}
theorem U6 (r:R B E w0 N σ a w G) {T:bh} (hT:xb P T) (hTM:EY P T) (hTV:EZ P T) (hF:∀f M,bh.find T.pure f=some M->bF P f=true) {mo:aD} (hN:∀n,o.dst=some n->n<N) (hc:eM P o mo=true) (hx:aJ T o.dst mo σ=some σ'):
  o.wp P a w (Nx B E w0 N σ') Q:=by
 obtain⟨dst,op,ty,pos,after,guard⟩:=o
 cases mo with
 |mv m=>
  simp only[aJ] at hx
  injection hx with hx
  subst hx
  cases op<;>simp only[eM] at hc<;>first|cases hc|skip
  ·exact U4 r (.inl rfl) hN hc
  ·exact U4 r (.inr rfl) hN hc
 |pick c x y=>
  cases op<;>simp only[eM] at hc<;>first|cases hc|skip
  rename_i c' x' y'
  simp only[Bool.and_eq_true] at hc
  simp only[aJ] at hx
  split at hx
  ·rename_i b hb
   have:=ab3 (P:=P) (Q:=Q) r (o:=⟨dst,.pick c' x' y',ty,pos,after,guard⟩) rfl hN hc.1.1 hc.1.2 hc.2 hb
   cases b<;>simp at hx<;>subst hx<;>exact this
  ·cases hx
 |alloc zs=>
  cases op<;>simp only[eM] at hc<;>first|cases hc|skip
  obtain⟨i,z,h1,h2,h3⟩:=Uj hc
  simp only[aJ] at hx
  split at hx
  ·rename_i n
   split at hx
   ·rename_i σ1 hi
    injection hx with hx
    subst hx
    exact abE r rfl rfl (hN n rfl) h1 h2 h3 hi
   ·cases hx
  ·cases hx
 |box sz m=>
  cases op<;>simp only[eM] at hc<;>first|cases hc|skip
  simp only[aJ] at hx
  split at hx
  ·rename_i n ag cs ez
   split at hx
   ·split at hx
    ·rename_i σ1 hi
     injection hx with hx
     subst hx
     exact abI r rfl rfl (hN _ rfl) hc ez hi
    ·cases hx
   ·cases hx
  ·cases hx
 |build zs ms=>
  cases op<;>simp only[eM] at hc<;>first|cases hc|skip
  simp only[aJ] at hx
  split at hx
  ·rename_i cs ez
   injection hx with hx
   subst hx
   unfold Ud at hc
   split at hc
   ·rename_i nV hu
    split at hc
    ·rename_i places gk
     simp only[Bool.and_eq_true] at hc
     obtain⟨i,z,h1,h2,h3⟩:=Uj hc.1
     exact abK r rfl hN h1 h2 hu gk h3 hc.2 ez
    ·cases hc
   ·cases hc
  ·cases hx
 |d8 sz ms=>
  cases op<;>simp only[eM] at hc<;>first|cases hc|skip
  simp only[Bool.and_eq_true,beq_iff_eq,decide_eq_true_eq] at hc
  obtain⟨⟨⟨⟨c1,c2⟩,c3⟩,c4⟩,c5⟩:=hc
  obtain⟨e,i,z,h1,h2,h3,h4,h5,_⟩:=vj c1
  simp only[aJ] at hx
  split at hx
  ·rename_i n es ow σ1 z6
   split at hx
   ·rename_i σ2 hi
    injection hx with hx
    subst hx
    refine abJ r rfl rfl (hN _ rfl) h1 h2 h3 h4 h5 c2 c3 c4 (fun j p m hp hm=>?_) z6 hi
    exact(KJ c5).2 j p.2 m (by simp[hp]) hm
   ·cases hx
  ·cases hx
 |load ag sz m=>
  cases op<;>simp only[eM] at hc<;>first|cases hc|skip
  simp only[Bool.and_eq_true] at hc
  simp only[aJ] at hx
  split at hx
  ·rename_i p hp
   split at hx
   ·rename_i cs ez
    injection hx with hx
    subst hx
    exact abZ r rfl hN hc.1 hc.2 hp ez
   ·cases hx
  ·cases hx
 |store sz mx my=>
  cases op<;>simp only[eM] at hc<;>first|cases hc|skip
  simp only[Bool.and_eq_true] at hc
  obtain⟨⟨⟨c0,c1⟩,c2⟩,c3⟩:=hc
  have hd:dst=none:=by simpa using c0
  unfold Ui at c3
  split at c3
  ·rename_i i hi
   simp only[Bool.and_eq_true,beq_iff_eq,decide_eq_true_eq] at c3
   simp only[aJ] at hx
   split at hx
   ·rename_i n k ax off ag vs hp hv
    split at hx
    ·rename_i hl
     split at hx
     ·rename_i cs hn
      split at hx
      ·rename_i hk
       injection hx with hx
       subst hx
       exact ab4 r rfl hd c1 c2 hi c3.1 c3.2 hp hv hl hn hk.1 hk.2
      ·cases hx
     ·rename_i gr m rs xs hn
      split at hx
      ·rename_i rc
       subst rc
       split at hx
       ·rename_i el nk
        exact ab6 r rfl hd c1 c2 hi c3.1 c3.2 hp hv hl hn nk hx
       ·cases hx
      ·cases hx
     ·cases hx
    ·cases hx
   ·rename_i n k ax off s i ag vs hp hv
    split at hx
    ·rename_i hl
     split at hx
     ·rename_i gr rs xs hn
      split at hx
      ·rename_i rc
       subst rc
       split at hx
       ·rename_i ar nq
        injection hx with hx
        subst hx
        exact ab5 r rfl hd c1 c2 hi c3.1 c3.2 hp hv hl hn nq
       ·cases hx
      ·cases hx
     ·cases hx
    ·cases hx
   ·cases hx
  ·cases c3
 |oy m=>
  cases op<;>simp only[eM] at hc<;>first|cases hc|skip
  simp only[aJ] at hx
  split at hx
  ·rename_i n k sz off hp
   split at hx
   ·rename_i hn
    injection hx with hx
    subst hx
    rw[<-hp]
    exact U5 r rfl hN hc (.inl ⟨_,_,_,_,hp,hn⟩)
   ·cases hx
  ·rename_i xs off hp
   injection hx with hx
   subst hx
   rw[<-hp]
   exact U5 r rfl hN hc (.inr ⟨_,_,hp⟩)
  ·cases hx
 |bin wk mx my=>
  cases op<;>simp only[eM] at hc<;>first|cases hc|skip
  simp only[Bool.and_eq_true,decide_eq_true_eq] at hc
  obtain⟨⟨rfl,c1⟩,c2⟩:=hc
  simp only[aJ] at hx
  split at hx
  ·rename_i c hb
   injection hx with hx
   subst hx
   exact abG r rfl hN c1 c2 hb
  ·cases hx
 |oO wk mx my=>
  cases op<;>simp only[eM] at hc<;>first|cases hc|skip
  simp only[Bool.and_eq_true,decide_eq_true_eq] at hc
  obtain⟨⟨⟨rfl,c1⟩,c2⟩,c3⟩:=hc
  unfold W9 at c3
  split at c3
  ·rename_i ht
   simp only[aJ] at hx
   split at hx
   ·rename_i c hb
    injection hx with hx
    subst hx
    exact abH r rfl hN c1 c2 ht hb
   ·cases hx
  ·cases c3
 |un wk mx=>
  cases op<;>simp only[eM] at hc<;>first|cases hc|skip
  simp only[Bool.and_eq_true,decide_eq_true_eq] at hc
  obtain⟨rfl,c1⟩:=hc
  simp only[aJ] at hx
  split at hx
  ·rename_i c hb
   injection hx with hx
   subst hx
   exact ab8 r rfl hN c1 hb
  ·cases hx
 |conv k mx=>
  cases op<;>simp only[eM] at hc<;>first|cases hc|skip
  simp only[Bool.and_eq_true] at hc
  obtain⟨c1,c2⟩:=hc
  unfold Uf at c2
  split at c2
  ·rename_i d k' ht hu
   have hk:k=k':=by simpa using c2
   subst hk
   simp only[aJ] at hx
   split at hx
   ·rename_i k2 n hb
    injection hx with hx
    subst hx
    exact abR r rfl hN c1 ht hu hb
   ·cases hx
  ·cases c2
 |kB m sz by_ zs ml mc=>
  cases op<;>simp only[eM] at hc<;>first|cases hc|skip
  simp only[Bool.and_eq_true] at hc
  obtain⟨⟨c1,c2⟩,c3⟩:=hc
  obtain⟨e,i,z,h1,h2,h3,h4,h5,h6⟩:=vj c3
  simp only[Bool.and_eq_true,beq_iff_eq,decide_eq_true_eq] at h6
  simp only[aJ] at hx
  split at hx
  ·rename_i n q q' hq dW
   split at hx
   ·rename_i cv
    obtain⟨k1,k2,k3,k4⟩:=cv
    split at hx
    ·rename_i σ1 hi
     injection hx with hx
     subst hx
     exact ab1 r rfl rfl (hN _ rfl) c1 c2 h1 h2 h3 h4 h6.1.1 h6.1.2 h5 h6.2 hq dW k1 k2 k3 k4 hi
    ·cases hx
   ·cases hx
  ·cases hx
 |slice sz mx H9 H7=>
  cases op<;>simp only[eM] at hc<;>first|cases hc|skip
  rename_i t x lo hi mm
  cases mm<;>simp only[eM] at hc<;>first|cases hc|skip
  simp only[Bool.and_eq_true] at hc
  obtain⟨⟨⟨c1,c2⟩,c3⟩,c4⟩:=hc
  obtain⟨e,i,z,h1,h2,h3,h4,h5,_⟩:=vj c4
  have vD:∀l,(match H9 with|none=>some 0|some l=>(σ.ev l).dc)=some l->(lo=none/\l=0)\/∃y my,lo=some y/\bx y my=true/\(σ.ev my).dc=some l:=by
   intro l hl
   cases H9 with
   |none=>cases lo<;>simp[zt] at c2;simp at hl;exact .inl ⟨rfl,hl.symm⟩
   |some my=>cases lo<;>simp[zt] at c2;exact .inr ⟨_,my,rfl,c2,hl⟩
  have tQ:∀(len:Nat) hh,(match H7 with|none=>some (len:Int)|some h=>(σ.ev h).dc)=some hh->(hi=none/\hh=len)\/∃y my,hi=some y/\bx y my=true/\(σ.ev my).dc=some hh:=by
   intro len l hl
   cases H7 with
   |none=>cases hi<;>simp[zt] at c3;simp at hl;exact .inl ⟨rfl,hl.symm⟩
   |some my=>cases hi<;>simp[zt] at c3;exact .inr ⟨_,my,rfl,c3,hl⟩
  simp only[aJ] at hx
  split at hx
  ·rename_i n s l0 len l hp hl
   split at hx
   ·rename_i hh MD
    split at hx
    ·rename_i cv
     obtain⟨rfl,k1,k2,k3,k4⟩:=cv
     injection hx with hx
     subst hx
     exact U7 r rfl hN c1 h1 h2 h4 h5 (vD l hl) (tQ len hh MD) k1 k2 k3 (.inl ⟨n,l0,hp,k4,rfl⟩)
    ·cases hx
   ·cases hx
  ·rename_i s xs l hp hl
   split at hx
   ·rename_i hh MD
    split at hx
    ·rename_i cv
     obtain⟨rfl,k1,k2,k3⟩:=cv
     injection hx with hx
     subst hx
     exact U7 r rfl hN c1 h1 h2 h4 h5 (vD l hl) (tQ xs.length hh MD) k1 k2 k3 (.inr ⟨xs,hp,rfl,rfl⟩)
    ·cases hx
   ·cases hx
  ·cases hx
 |tail sz mx ml=>
  cases op<;>simp only[eM] at hc<;>first|cases hc|skip
  rename_i t x lo hi mm
  cases mm<;>cases hi<;>cases lo<;>simp only[eM] at hc<;>first|cases hc|skip
  rename_i y
  simp only[Bool.and_eq_true] at hc
  obtain⟨⟨c1,c2⟩,c4⟩:=hc
  obtain⟨e,i,z,h1,h2,h3,h4,h5,_⟩:=vj c4
  simp only[aJ] at hx
  split at hx
  ·rename_i n a0 s len l hp hl
   split at hx
   ·rename_i m rs xs hn
    split at hx
    ·rename_i cv
     obtain⟨rfl,rfl,rfl,k1,k2⟩:=cv
     split at hx
     ·rename_i σ1 e1
      injection hx with hx
      subst hx
      exact ab7 r rfl rfl (hN _ rfl) c1 c2 h1 h2 h4 h5 hp hl k1 k2 hn e1
     ·cases hx
    ·cases hx
   ·cases hx
  ·cases hx
 |ak off mx=>
  cases op<;>simp only[eM] at hc<;>first|cases hc|skip
  simp only[Bool.and_eq_true] at hc
  simp only[aJ] at hx
  split at hx
  ·rename_i n k sz q hp
   split at hx
   ·rename_i hn
    injection hx with hx
    subst hx
    exact U2 r rfl hN hc.1 hc.2 (.inl ⟨_,_,_,_,hp,hn,rfl⟩)
   ·cases hx
  ·rename_i xs q hp
   injection hx with hx
   subst hx
   exact U2 r rfl hN hc.1 hc.2 (.inr ⟨_,_,hp,rfl⟩)
  ·cases hx
 |bT sz mx mi=>
  cases op<;>simp only[eM] at hc<;>first|cases hc|skip
  simp only[Bool.and_eq_true] at hc
  obtain⟨⟨c1,c2⟩,c3⟩:=hc
  obtain⟨e,i,z,h1,h2,h3,h4,h5,_⟩:=vj c3
  simp only[aJ] at hx
  split at hx
  ·rename_i n s lo len k hp hk
   split at hx
   ·rename_i cv
    obtain⟨rfl,k1,k2,k3⟩:=cv
    injection hx with hx
    subst hx
    exact U3 r rfl hN c1 c2 h1 h2 h4 hk k1 (.inl ⟨_,_,_,hp,k2,k3,rfl⟩)
   ·cases hx
  ·rename_i s xs k hp hk
   split at hx
   ·rename_i cv
    obtain⟨rfl,k1⟩:=cv
    split at hx
    ·rename_i el nk
     injection hx with hx
     subst hx
     exact U3 r rfl hN c1 c2 h1 h2 h4 hk k1 (.inr ⟨_,_,hp,nk,rfl⟩)
    ·cases hx
   ·cases hx
  ·rename_i n kk ax off s len k hp hk
   split at hx
   ·rename_i s' ys Nf
    split at hx
    ·rename_i cv
     obtain⟨rfl,k1,k2⟩:=cv
     injection hx with hx
     subst hx
     exact abY r rfl hN c1 c2 h1 h2 h4 hk k1 k2 hp Nf
    ·cases hx
   ·cases hx
  ·cases hx
 |ext i mx=>
  cases op<;>simp only[eM] at hc<;>first|cases hc|skip
  simp only[Bool.and_eq_true,beq_iff_eq] at hc
  obtain⟨rfl,c1⟩:=hc
  simp only[aJ] at hx
  split at hx
  ·rename_i xs hp
   split at hx
   ·rename_i ag cs ez
    injection hx with hx
    subst hx
    refine abW r rfl hN c1 hp ez fun br=>?_
    subst br
    obtain⟨y1,_⟩:=r.ev c1
    rw[hp] at y1
    obtain⟨vs,_,hl,hv⟩:=y1
    have hi:i<vs.length:=by rw[hl];exact(List.getElem?_eq_some_iff.1 ez).1
    have:cA w G σ.h cs [vs[i]]:=hv i (false,cs) vs[i] ez (List.getElem?_eq_getElem hi)
    exact List.length_eq_one_iff.1 this.1.symm
   ·cases hx
  ·cases hx
 |nf ag off sz mx=>
  cases op<;>simp only[eM] at hc<;>first|cases hc|skip
  simp only[Bool.and_eq_true] at hc
  simp only[aJ] at hx
  split at hx
  ·rename_i cs hp
   split at hx
   ·rename_i l hl
    injection hx with hx
    subst hx
    exact abX r rfl hN hc.1 hc.2 hp hl
   ·cases hx
  ·cases hx
 |mU f bM mx=>
  cases op<;>simp only[eM] at hc<;>first|cases hc|skip
  rename_i c
  obtain⟨cal,args,T3⟩:=c
  simp only at hc
  split at hc
  ·rename_i g x qX
   simp only[Bool.and_eq_true,beq_iff_eq] at hc
   obtain⟨⟨⟨hfg,c1⟩,c2⟩,c3⟩:=hc
   subst hfg
   have ea:args=#[x]:=by apply Array.ext';simpa using qX
   subst ea
   simp only[aJ] at hx
   split at hx
   ·rename_i n sz lo len hp
    split at hx
    ·rename_i hs
     injection hx with hx
     subst hx
     exact Lb r hN rfl c1 c2 c3 hp (.inl ⟨n,sz,lo,rfl,hs⟩)
    ·cases hx
   ·rename_i sz xs hp
    injection hx with hx
    subst hx
    exact Lb r hN rfl c1 c2 c3 hp (.inr (.inl ⟨sz,xs,rfl,rfl⟩))
   ·rename_i sz hp
    injection hx with hx
    subst hx
    exact Lb r (len:=0) hN rfl c1 c2 c3 hp (.inr (.inr ⟨sz,rfl,rfl⟩))
   ·cases hx
  ·cases hc
 |len mx=>
  cases op<;>simp only[eM] at hc<;>first|cases hc|skip
  rename_i c
  obtain⟨callee,args,argTypes⟩:=c
  split at hc
  ·rename_i x t bQ ha ht
   simp only at bQ ha ht
   subst bQ
   have tJ:args=#[x]:=by apply Array.ext';exact ha
   have xV:argTypes=#[t]:=by apply Array.ext';exact ht
   subst tJ xV
   simp only[Bool.and_eq_true] at hc
   obtain⟨c1,c2⟩:=hc
   split at c2
   ·rename_i e hu
    simp only[aJ] at hx
    split at hx
    ·rename_i n sz lo len hp
     split at hx
     ·rename_i hn
      injection hx with hx
      subst hx
      exact GQ r rfl hN c1 hu (.inl ⟨_,_,_,hp,hn⟩)
     ·cases hx
    ·rename_i sz xs hp
     injection hx with hx
     subst hx
     exact GQ r rfl hN c1 hu (.inr (.inl ⟨_,_,hp,rfl⟩))
    ·rename_i sz hp
     injection hx with hx
     subst hx
     exact GQ r rfl hN c1 hu (.inr (.inr (.inl ⟨_,hp,rfl⟩)))
    ·rename_i n k ax off sz len hp
     split at hx
     ·rename_i s ys rh
      injection hx with hx
      subst hx
      exact GQ r rfl hN c1 hu (.inr (.inr (.inr ⟨_,_,_,_,_,_,_,_,hp,rh,rfl⟩)))
     ·cases hx
    ·cases hx
   ·cases c2
  ·cases hc
 |append fl sz by_ mx my=>
  cases op<;>simp only[eM] at hc<;>first|cases hc|skip
  rename_i c
  obtain⟨callee,args,argTypes⟩:=c
  split at hc
  ·rename_i x y t t' bQ ha ht
   simp only at bQ ha ht
   subst bQ
   have tJ:args=#[x,y]:=by apply Array.ext';exact ha
   have xV:argTypes=#[t,t']:=by apply Array.ext';exact ht
   subst tJ xV
   simp only[Bool.and_eq_true,beq_iff_eq] at hc
   obtain⟨⟨⟨rfl,c1⟩,c2⟩,c3⟩:=hc
   obtain⟨e,i,z,h1,h2,h3,h4,h5,h6⟩:=vj c3
   simp only[Bool.and_eq_true,beq_iff_eq,decide_eq_true_eq] at h6
   simp only[aJ] at hx
   split at hx
   ·cases hx
   ·rename_i n
    split at hx
    ·cases hx
    ·rename_i xs m σ1 hl
     split at hx
     ·cases hx
     ·rename_i ys m2 σ2 hr
      split at hx
      ·rename_i hb
       split at hx
       ·rename_i gF hi
        injection hx with hx
        subst hx
        exact abF r rfl rfl (hN _ rfl) c1 c2 h1 h2 h3 h4 h5 h6.1.1 h6.1.2 h6.2 hl hr hb hi
       ·cases hx
      ·cases hx
  ·cases hc
 |copy sz mx my=>
  cases op<;>simp only[eM] at hc<;>first|cases hc|skip
  rename_i c
  obtain⟨callee,args,argTypes⟩:=c
  split at hc
  ·rename_i x y t t' bQ ha ht
   simp only at bQ ha ht
   subst bQ
   have tJ:args=#[x,y]:=by apply Array.ext';exact ha
   have xV:argTypes=#[t,t']:=by apply Array.ext';exact ht
   subst tJ xV
   simp only[Bool.and_eq_true,beq_iff_eq] at hc
   obtain⟨⟨⟨c0,c1⟩,c2⟩,c3⟩:=hc
   obtain⟨e,i,z,h1,h2,h3,h4,h5,_⟩:=vj c3
   simp only[aJ] at hx
   split at hx
   ·rename_i n s lo len cc hp hq
    split at hx
    ·rename_i gr m rs xs s' ys hn hv
     split at hx
     ·rename_i cv
      obtain⟨rfl,rfl,rfl,rfl,k1,k2,k3,k4⟩:=cv
      injection hx with hx
      subst hx
      exact abS r rfl hN c1 c2 h1 h2 h4 hp hq hn hv k1 k2 k3 k4
     ·cases hx
    ·cases hx
   ·cases hx
  ·cases hc
 |kN zc mx=>
  cases op<;>simp only[eM] at hc<;>first|cases hc|skip
  rename_i c
  obtain⟨callee,args,argTypes⟩:=c
  split at hc
  ·rename_i x t bQ ha ht
   simp only at bQ ha ht
   subst bQ
   have tJ:args=#[x]:=by apply Array.ext';exact ha
   have xV:argTypes=#[t]:=by apply Array.ext';exact ht
   subst tJ xV
   simp only[Bool.and_eq_true] at hc
   obtain⟨c1,c3⟩:=hc
   obtain⟨e,i,z,h1,h2,h3,h4,h5,h6⟩:=vj c3
   simp only[aJ] at hx
   split at hx
   ·rename_i n s lo len hp
    split at hx
    ·rename_i gr m rs xs hn
     split at hx
     ·rename_i cv
      obtain⟨rfl,rfl,k0,k1,k2,k3⟩:=cv
      injection hx with hx
      subst hx
      exact abQ r rfl hN c1 h1 h2 h3 h6 k0 hp hn k1 k2 k3
     ·cases hx
    ·cases hx
   ·cases hx
  ·cases hc
 |mm b mx my=>
  cases op<;>simp only[eM] at hc<;>first|cases hc|skip
  rename_i c
  obtain⟨callee,args,argTypes⟩:=c
  have cP:∀x y,callee=.builtin (if b=true then .max else .min)->args=#[x,y]->bx x mx=true->bx y my=true->
    Oper.wp P ⟨dst,.call ⟨callee,args,argTypes⟩,ty,pos,after,guard⟩ a w (Nx B E w0 N σ') Q:=by
   intro x y bQ ha c1 c2
   subst bQ ha
   simp only[aJ] at hx
   split at hx
   ·rename_i k n k' m h1 h2
    have:=ab2 (P:=P) (Q:=Q) (mx':=b) r (o:=⟨dst,.call ⟨.builtin (if b=true then .max else .min),#[x,y],argTypes⟩,ty,pos,after,guard⟩) rfl hN c1 c2 h1 h2
    cases b
    ·simp at hx this
     split at hx<;>(rename_i bX;injection hx with hx;subst hx;simpa[bX] using this)
    ·simp at hx this
     split at hx<;>(rename_i bX;injection hx with hx;subst hx;simpa[bX] using this)
   ·cases hx
  split at hc
  ·rename_i x y bQ ha
   simp only[Bool.and_eq_true] at hc
   obtain⟨⟨rfl,c1⟩,c2⟩:=hc
   exact cP x y bQ (by apply Array.ext';exact ha) c1 c2
  ·rename_i x y bQ ha
   simp only[Bool.and_eq_true,Bool.not_eq_true'] at hc
   obtain⟨⟨rfl,c1⟩,c2⟩:=hc
   exact cP x y bQ (by apply Array.ext';exact ha) c1 c2
  ·cases hc
 |call m f ms=>
  cases op<;>simp only[eM] at hc<;>first|cases hc|skip
  rename_i c
  obtain⟨callee,args,argTypes⟩:=c
  split at hc
  ·rename_i g bQ
   simp only at bQ
   subst bQ
   simp only[Bool.and_eq_true,beq_iff_eq] at hc
   obtain⟨⟨rfl,c1⟩,c2⟩:=hc
   exact abL r hT hN rfl c1 c2 hx
  ·cases hc
 |mr f ms=>
  cases op<;>simp only[eM] at hc<;>first|cases hc|skip
  rename_i c
  obtain⟨callee,args,argTypes⟩:=c
  split at hc
  ·rename_i g bQ
   simp only at bQ
   subst bQ
   simp only[Bool.and_eq_true,beq_iff_eq] at hc
   obtain⟨⟨rfl,c1⟩,c2⟩:=hc
   simp only[aJ] at hx
   split at hx
   ·rename_i z hz
    injection hx with hx
    subst hx
    exact abN r hT hN rfl c1 c2 hz
   ·cases hx
  ·cases hc
 |e9 m f ms=>
  cases op<;>simp only[eM] at hc<;>first|cases hc|skip
  rename_i c
  obtain⟨callee,args,argTypes⟩:=c
  split at hc
  ·rename_i g bQ
   simp only at bQ
   subst bQ
   simp only[Bool.and_eq_true,beq_iff_eq] at hc
   obtain⟨⟨rfl,c1⟩,c2⟩:=hc
   simp only[aJ] at hx
   exact abO r hTM hN rfl c1 c2 hx
  ·cases hc
 |jv f ms=>
  cases op<;>simp only[eM] at hc<;>first|cases hc|skip
  rename_i c
  obtain⟨callee,args,argTypes⟩:=c
  split at hc
  ·rename_i g bQ
   simp only at bQ
   subst bQ
   simp only[Bool.and_eq_true,beq_iff_eq] at hc
   obtain⟨⟨rfl,c1⟩,c2⟩:=hc
   simp only[aJ] at hx
   exact abM r hTV hN rfl c1 c2 hx
  ·cases hc
 |pt f ms=>
  cases op<;>simp only[eM] at hc<;>first|cases hc|skip
  rename_i fn first xs
  cases fn<;>simp only at hc<;>first|cases hc|skip
  simp only[Bool.and_eq_true,beq_iff_eq] at hc
  obtain⟨⟨⟨rfl,c0⟩,c1⟩,c2⟩:=hc
  have hf0:first=#[]:=by simpa using c0
  subst hf0
  obtain⟨g1,g2⟩:=KJ c2
  simp only[aJ] at hx
  split at hx
  ·rename_i cs ez
   split at hx
   ·rename_i hj
    injection hx with hx
    subst hx
    exact ab0 r rfl hN ⟨by simpa using g1.symm,g2⟩ ez (fun c hc gh=>by
     have:=List.all_eq_true.1 hj c hc
     subst gh
     simp[ah.DF] at this)
   ·cases hx
  ·cases hx
 |mw m mx ms=>
  cases op<;>simp only[eM] at hc<;>first|cases hc|skip
  rename_i c
  obtain⟨callee,args,argTypes⟩:=c
  split at hc
  ·rename_i t bQ
   simp only at bQ
   subst bQ
   simp only[Bool.and_eq_true] at hc
   simp only[aJ] at hx
   split at hx
   ·rename_i f ca hp
    have hfk:bF P f=true:=by
     have eT:=hx
     unfold qQ at eT
     split at eT
     ·split at eT
      ·rename_i M hM;exact hF f M hM
      ·cases eT
     ·cases eT
    exact abP r hT hN rfl hfk hc.1 hc.2 hp hx
   ·cases hx
  ·cases hc
end
end Go.Am
