/- Am17: is an operation of the program what the abstract one says? No condition. -/
import Derived.Test.YtifmggmhdcdgbaaAmR
import Derived.Test.YtifmggmhdcdgbaaAmV
set_option linter.unusedVariables false
set_option linter.unusedSimpArgs false
namespace Go.Am
def zJ:Option Operand->Option MO->Bool
 |none,none=>true
 |some x,some m=>bq x m
 |_,_=>false
def rL (P:Program) (t:TypeId) (sz:Nat) (k:TypeInfo->Value->Bool):Bool:=
 match P.underlying t with
 |some (.slice e)=>match P.info? e with
  |some i=>match i.zero with
   |some z=>i.size==sz&&decide (0<sz)&&k i z
   |none=>false
  |none=>false
 |_=>false
theorem vk {P:Program} {t:TypeId} {sz:Nat} {k:TypeInfo->Value->Bool} (h:rL P t sz k=true):
  ∃e i z,P.underlying t=some (.slice e)/\P.info? e=some i/\i.zero=some z/\i.size=sz/\0<sz/\k i z=true:=by
 unfold rL at h
 split at h
 ·rename_i e he
  split at h
  ·rename_i i hi
   split at h
   ·rename_i z hz
    simp only[Bool.and_eq_true,beq_iff_eq,decide_eq_true_eq] at h
    exact⟨e,i,z,he,hi,hz,h.1.1,h.1.2,h.2⟩
   ·cases h
  ·cases h
 ·cases h
def G9 (P:Program) (t:TypeId) (zs:List ah):Bool:=
 match P.info? t with
 |some i=>match i.zero with
  |some z=>rK z.cells.toList zs
  |none=>false
 |none=>false
theorem Vz {P:Program} {t:TypeId} {zs:List ah} (h:G9 P t zs=true):∃i z,P.info? t=some i/\i.zero=some z/\rK z.cells.toList zs=true:=by
 unfold G9 at h
 split at h
 ·rename_i i hi
  split at h
  ·rename_i z hz;exact⟨i,z,hi,hz,h⟩
  ·cases h
 ·cases h
def Vt (P:Program) (t:TypeId) (parts:List (Nat×Operand)) (zs:List ah) (ms:List (Nat×Nat×MO)):Bool:=
 match P.underlying t with
 |some (.struct nj)=>match nj.toList.mapM (fun f=>(P.info? f.type).map fun i=>(f.offset,i.size)) with
  |some places=>G9 P t zs&&xx places parts ms
  |none=>false
 |_=>false
def Vy (P:Program) (t:TypeId) (sz:Nat):Bool:=
 match P.info? t with
 |some i=>i.size==sz&&decide (0<sz)
 |none=>false
def Vv (P:Program) (t u:TypeId) (k:IntKind):Bool:=
 match P.underlying t,P.underlying u with
 |some _,some (.int k')=>k==k'
 |_,_=>false
def YC (P:Program) (t:TypeId):Bool:=
 match P.underlying t with
 |some .bool=>true
 |_=>false
def dV (P:Program) (o:Oper) (mo:aC):Bool:=
 match mo,o.op with
 |.mv m,.move x=>bq x m
 |.mv m,.assign x=>bq x m
 |.pick c x y,.pick c' x' y'=>bq c' c&&bq x' x&&bq y' y
 |.alloc zs,.alloc e=>G9 P e zs
 |.box sz m,.box e x=>bq x m
 |.build zs ms,.build t parts=>Vt P t parts.toList zs ms
 |.dT sz ms,.buildSlice t len parts=>rL P t sz (fun _ _=>true)&&(ms.length==len)&&decide (parts.toList.map (·.1)=List.range len)&&decide (len*sz<=16777216)&&gN (parts.toList.map (·.2)) ms
 |.load ag sz m,.load t x=>bq x m&&pf P t ag sz
 |.lV ag sz m,.load t x=>bq x m&&pf P t ag sz
 |.store sz mx my,.store t x y=>o.dst.isNone&&bq x mx&&bq y my&&Vy P t sz
 |.nM m,.nilCheck x=>bq x m
 |.bin op mx my,.binOp wC t x y t'=>decide (op=wC)&&bq x mx&&bq y my
 |.lz op mx my,.binOp wC t x y t'=>decide (op=wC)&&bq x mx&&bq y my&&YC P t
 |.un op mx,.unOp wC t x=>decide (op=wC)&&bq x mx
 |.conv k mx,.convert t u x=>bq x mx&&Vv P t u k
 |.ld m sz by_ zs ml mc,.makeSlice t l c=>bq l ml&&bq c mc&&rL P t sz (fun i z=>(i.bytes==by_)&&decide (0<by_)&&tv z.cells.toList zs)
 |.slice sz mx JB JA,.slice t x lo hi none=>bq x mx&&zJ lo JB&&zJ hi JA&&rL P t sz (fun _ _=>true)
 |.tail sz mx ml,.slice t x (some y) none none=>bq x mx&&bq y ml&&rL P t sz (fun _ _=>true)
 |.ak off mx,.fieldAddr s x f=>bq x mx&&G5 P s f off
 |.bO sz mx mi,.indexAddr t x i=>bq x mx&&bq i mi&&rL P t sz (fun _ _=>true)
 |.ext i mx,.extract x j=>(i==j)&&bq x mx
 |.mA ag off sz mx,.field s x f=>bq x mx&&LQ P s f off ag sz
 |.lr f bE mx,.call c=>match c.callee,c.args.toList with
  |.value (.func g),[x]=>(f==g)&&bD P f&&G8 P f bE&&bq x mx
  |_,_=>false
 |.len mx,.call c=>match c.callee,c.args.toList,c.argTypes.toList with
  |.builtin .len,[x],[t]=>bq x mx&&(match P.underlying t with|some (.slice _)=>true|_=>false)
  |_,_,_=>false
 |.append fl sz by_ mx my,.call c=>match c.callee,c.args.toList,c.argTypes.toList with
  |.builtin .append,[x,y],[t,t']=>(t==t')&&bq x mx&&bq y my&&rL P t sz (fun i z=>(i.bytes==by_)&&decide (0<by_)&&(z.cells.size==sz))
  |_,_,_=>false
 |.copy sz mx my,.call c=>match c.callee,c.args.toList,c.argTypes.toList with
  |.builtin .copy,[x,y],[t,t']=>(sz==1)&&bq x mx&&bq y my&&rL P t 1 (fun _ _=>true)
  |_,_,_=>false
 |.j7 zc mx,.call c=>match c.callee,c.args.toList,c.argTypes.toList with
  |.builtin .clear,[x],[t]=>bq x mx&&rL P t 1 (fun _ z=>tv z.cells.toList [zc])
  |_,_,_=>false
 |.mm b mx my,.call c=>match c.callee,c.args.toList with
  |.builtin .max,[x,y]=>b&&bq x mx&&bq y my
  |.builtin .min,[x,y]=> !b&&bq x mx&&bq y my
  |_,_=>false
 |.call m f ms,.call c=>match c.callee with
  |.value (.func g)=>(f==g)&&bD P f&&gN c.args.toList ms
  |_=>false
 |.lA f ms,.call c=>match c.callee with
  |.value (.func g)=>(f==g)&&bD P f&&gN c.args.toList ms
  |_=>false
 |.eQ m f ms,.call c=>match c.callee with
  |.value (.func g)=>(f==g)&&bD P f&&gN c.args.toList ms
  |_=>false
 |.iJ f ms,.call c=>match c.callee with
  |.value (.func g)=>(f==g)&&bD P f&&gN c.args.toList ms
  |_=>false
 |.oN f ms,.makeFunc (.func g) first xs=>(f==g)&&first.isEmpty&&bD P f&&gN xs.toList ms
 |.lB m mx ms,.call c=>match c.callee with
  |.value (.tmp t)=>bq (.tmp t) mx&&gN c.args.toList ms
  |_=>false
 |_,_=>false
theorem LR:∀{xs:List Operand} {ms:List MO},gN xs ms=true->xs.length=ms.length/\∀(j:Nat) (x:Operand) (m:MO),xs[j]? =some x->ms[j]? =some m->bq x m=true
 |[],[],_=>⟨rfl,by simp⟩
 |x::xs,m::ms,hc=>by
  simp only[gN,Bool.and_eq_true] at hc
  obtain⟨i1,i2⟩:=LR hc.2
  refine⟨by simp[i1],fun j x' m' hj hm=>?_⟩
  cases j with
  |zero=>simp at hj hm;subst hj;subst hm;exact hc.1
  |succ j=>exact i2 j x' m' (by simpa using hj) (by simpa using hm)
 |[],_::_,hc=>by simp[gN] at hc
 |_::_,[],hc=>by simp[gN] at hc
section
variable {B:Nat} {E:Ex} {w0 w w':World} {G G':Gh} {h h':Nat->Option ar} {used used':Nat->Bool} {tk:List PC} {N:Nat}
variable {P:Program} {o:Oper} {a:Act} {σ σ':St} {Q:Exit->Act->World->Prop}
theorem Wm (r:R B E w0 N σ a w G) {T:be} (hT:xq P T) (hTM:FI P T) (hTV:FJ P T) (hF:∀f M,be.find T.pure f=some M->bD P f=true) {mo:aC} (hN:∀n,o.dst=some n->n<N) (hc:dV P o mo=true) (hx:aI T o.dst mo σ=some σ'):
  o.wp P a w (Nx B E w0 N σ') Q:=by
 obtain⟨dst,op,ty,pos,after,guard⟩:=o
 cases mo with
 |mv m=>
  simp only[aI] at hx
  injection hx with hx
  subst hx
  cases op<;>simp only[dV] at hc<;>first|cases hc|skip
  ·exact Wk r (.inl rfl) hN hc
  ·exact Wk r (.inr rfl) hN hc
 |pick c x y=>
  cases op<;>simp only[dV] at hc<;>first|cases hc|skip
  rename_i c' x' y'
  simp only[Bool.and_eq_true] at hc
  simp only[aI] at hx
  split at hx
  ·rename_i b hb
   have:=adP (P:=P) (Q:=Q) r (o:=⟨dst,.pick c' x' y',ty,pos,after,guard⟩) rfl hN hc.1.1 hc.1.2 hc.2 hb
   cases b<;>simp at hx<;>subst hx<;>exact this
  ·cases hx
 |alloc zs=>
  cases op<;>simp only[dV] at hc<;>first|cases hc|skip
  obtain⟨i,z,h1,h2,h3⟩:=Vz hc
  simp only[aI] at hx
  split at hx
  ·rename_i n
   split at hx
   ·rename_i σ1 hi
    injection hx with hx
    subst hx
    exact adp r rfl rfl (hN n rfl) h1 h2 h3 hi
   ·cases hx
  ·cases hx
 |box sz m=>
  cases op<;>simp only[dV] at hc<;>first|cases hc|skip
  simp only[aI] at hx
  split at hx
  ·rename_i n ag cs dG
   split at hx
   ·split at hx
    ·rename_i σ1 hi
     injection hx with hx
     subst hx
     exact adu r rfl rfl (hN _ rfl) hc dG hi
    ·cases hx
   ·cases hx
  ·cases hx
 |build zs ms=>
  cases op<;>simp only[dV] at hc<;>first|cases hc|skip
  simp only[aI] at hx
  split at hx
  ·rename_i cs dG
   injection hx with hx
   subst hx
   unfold Vt at hc
   split at hc
   ·rename_i nj hu
    split at hc
    ·rename_i places fK
     simp only[Bool.and_eq_true] at hc
     obtain⟨i,z,h1,h2,h3⟩:=Vz hc.1
     exact adw r rfl hN h1 h2 hu fK h3 hc.2 dG
    ·cases hc
   ·cases hc
  ·cases hx
 |dT sz ms=>
  cases op<;>simp only[dV] at hc<;>first|cases hc|skip
  simp only[Bool.and_eq_true,beq_iff_eq,decide_eq_true_eq] at hc
  obtain⟨⟨⟨⟨c1,c2⟩,c3⟩,c4⟩,c5⟩:=hc
  obtain⟨e,i,z,h1,h2,h3,h4,h5,_⟩:=vk c1
  simp only[aI] at hx
  split at hx
  ·rename_i n es ow σ1 An
   split at hx
   ·rename_i σ2 hi
    injection hx with hx
    subst hx
    refine adv r rfl rfl (hN _ rfl) h1 h2 h3 h4 h5 c2 c3 c4 (fun j p m hp hm=>?_) An hi
    exact(LR c5).2 j p.2 m (by simp[hp]) hm
   ·cases hx
  ·cases hx
 |load ag sz m=>
  cases op<;>simp only[dV] at hc<;>first|cases hc|skip
  simp only[Bool.and_eq_true] at hc
  simp only[aI] at hx
  split at hx
  ·rename_i p hp
   split at hx
   ·rename_i cs dG
    injection hx with hx
    subst hx
    exact Wj r rfl hN hc.1 hc.2 hp dG
   ·cases hx
  ·cases hx
 |lV ag sz m=>
  cases op<;>simp only[dV] at hc<;>first|cases hc|skip
  simp only[Bool.and_eq_true] at hc
  simp only[aI] at hx
  split at hx
  ·rename_i p hp
   split at hx
   ·rename_i σ1 hf
    split at hx
    ·rename_i cs dG
     injection hx with hx
     subst hx
     exact adL r rfl hN hc.1 hc.2 hp hf dG
    ·cases hx
   ·cases hx
  ·cases hx
 |store sz mx my=>
  cases op<;>simp only[dV] at hc<;>first|cases hc|skip
  simp only[Bool.and_eq_true] at hc
  obtain⟨⟨⟨c0,c1⟩,c2⟩,c3⟩:=hc
  have hd:dst=none:=by simpa using c0
  unfold Vy at c3
  split at c3
  ·rename_i i hi
   simp only[Bool.and_eq_true,beq_iff_eq,decide_eq_true_eq] at c3
   simp only[aI] at hx
   split at hx
   ·rename_i n k ax off ag vs hp hv
    split at hx
    ·rename_i hl
     split at hx
     ·rename_i cs hn
      split at hx
      ·rename_i hk
       injection hx with hx
       subst hx
       exact adQ r rfl hd c1 c2 hi c3.1 c3.2 hp hv hl hn hk.1 hk.2
      ·cases hx
     ·rename_i gr m rs xs hn
      split at hx
      ·rename_i qR
       subst qR
       split at hx
       ·rename_i el mF
        exact adS r rfl hd c1 c2 hi c3.1 c3.2 hp hv hl hn mF hx
       ·cases hx
      ·cases hx
     ·cases hx
    ·cases hx
   ·rename_i n k ax off s i ag vs hp hv
    split at hx
    ·rename_i hl
     split at hx
     ·rename_i gr rs xs hn
      split at hx
      ·rename_i qR
       subst qR
       split at hx
       ·rename_i au mI
        injection hx with hx
        subst hx
        exact adR r rfl hd c1 c2 hi c3.1 c3.2 hp hv hl hn mI
       ·cases hx
      ·cases hx
     ·cases hx
    ·cases hx
   ·cases hx
  ·cases c3
 |nM m=>
  cases op<;>simp only[dV] at hc<;>first|cases hc|skip
  simp only[aI] at hx
  split at hx
  ·rename_i n k sz off hp
   split at hx
   ·rename_i hn
    injection hx with hx
    subst hx
    rw[<-hp]
    exact Wl r rfl hN hc (.inl ⟨_,_,_,_,hp,hn⟩)
   ·cases hx
  ·rename_i xs off hp
   injection hx with hx
   subst hx
   rw[<-hp]
   exact Wl r rfl hN hc (.inr ⟨_,_,hp⟩)
  ·cases hx
 |bin wC mx my=>
  cases op<;>simp only[dV] at hc<;>first|cases hc|skip
  simp only[Bool.and_eq_true,decide_eq_true_eq] at hc
  obtain⟨⟨rfl,c1⟩,c2⟩:=hc
  simp only[aI] at hx
  split at hx
  ·rename_i c hb
   injection hx with hx
   subst hx
   exact ads r rfl hN c1 c2 hb
  ·cases hx
 |lz wC mx my=>
  cases op<;>simp only[dV] at hc<;>first|cases hc|skip
  simp only[Bool.and_eq_true,decide_eq_true_eq] at hc
  obtain⟨⟨⟨rfl,c1⟩,c2⟩,c3⟩:=hc
  unfold YC at c3
  split at c3
  ·rename_i ht
   simp only[aI] at hx
   split at hx
   ·rename_i c hb
    injection hx with hx
    subst hx
    exact adt r rfl hN c1 c2 ht hb
   ·cases hx
  ·cases c3
 |un wC mx=>
  cases op<;>simp only[dV] at hc<;>first|cases hc|skip
  simp only[Bool.and_eq_true,decide_eq_true_eq] at hc
  obtain⟨rfl,c1⟩:=hc
  simp only[aI] at hx
  split at hx
  ·rename_i c hb
   injection hx with hx
   subst hx
   exact adU r rfl hN c1 hb
  ·cases hx
 |conv k mx=>
  cases op<;>simp only[dV] at hc<;>first|cases hc|skip
  simp only[Bool.and_eq_true] at hc
  obtain⟨c1,c2⟩:=hc
  unfold Vv at c2
  split at c2
  ·rename_i d k' ht hu
   have hk:k=k':=by simpa using c2
   subst hk
   simp only[aI] at hx
   split at hx
   ·rename_i k2 n hb
    injection hx with hx
    subst hx
    exact adD r rfl hN c1 ht hu hb
   ·cases hx
  ·cases c2
 |ld m sz by_ zs ml mc=>
  cases op<;>simp only[dV] at hc<;>first|cases hc|skip
  simp only[Bool.and_eq_true] at hc
  obtain⟨⟨c1,c2⟩,c3⟩:=hc
  obtain⟨e,i,z,h1,h2,h3,h4,h5,h6⟩:=vk c3
  simp only[Bool.and_eq_true,beq_iff_eq,decide_eq_true_eq] at h6
  simp only[aI] at hx
  split at hx
  ·rename_i n q q' hq dH
   split at hx
   ·rename_i cd
    obtain⟨k1,k2,k3,k4⟩:=cd
    split at hx
    ·rename_i σ1 hi
     injection hx with hx
     subst hx
     exact adN r rfl rfl (hN _ rfl) c1 c2 h1 h2 h3 h4 h6.1.1 h6.1.2 h5 h6.2 hq dH k1 k2 k3 k4 hi
    ·cases hx
   ·cases hx
  ·cases hx
 |slice sz mx JB JA=>
  cases op<;>simp only[dV] at hc<;>first|cases hc|skip
  rename_i t x lo hi mm
  cases mm<;>simp only[dV] at hc<;>first|cases hc|skip
  simp only[Bool.and_eq_true] at hc
  obtain⟨⟨⟨c1,c2⟩,c3⟩,c4⟩:=hc
  obtain⟨e,i,z,h1,h2,h3,h4,h5,_⟩:=vk c4
  have vF:∀l,(match JB with|none=>some 0|some l=>(σ.ev l).cN)=some l->(lo=none/\l=0)\/∃y my,lo=some y/\bq y my=true/\(σ.ev my).cN=some l:=by
   intro l hl
   cases JB with
   |none=>cases lo<;>simp[zJ] at c2;simp at hl;exact .inl ⟨rfl,hl.symm⟩
   |some my=>cases lo<;>simp[zJ] at c2;exact .inr ⟨_,my,rfl,c2,hl⟩
  have tM:∀(len:Nat) hh,(match JA with|none=>some (len:Int)|some h=>(σ.ev h).cN)=some hh->(hi=none/\hh=len)\/∃y my,hi=some y/\bq y my=true/\(σ.ev my).cN=some hh:=by
   intro len l hl
   cases JA with
   |none=>cases hi<;>simp[zJ] at c3;simp at hl;exact .inl ⟨rfl,hl.symm⟩
   |some my=>cases hi<;>simp[zJ] at c3;exact .inr ⟨_,my,rfl,c3,hl⟩
  simp only[aI] at hx
  split at hx
  ·rename_i n s l0 len l hp hl
   split at hx
   ·rename_i hh NK
    split at hx
    ·rename_i cd
     obtain⟨rfl,k1,k2,k3,k4⟩:=cd
     injection hx with hx
     subst hx
     exact Wn r rfl hN c1 h1 h2 h4 h5 (vF l hl) (tM len hh NK) k1 k2 k3 (.inl ⟨n,l0,hp,k4,rfl⟩)
    ·cases hx
   ·cases hx
  ·rename_i s xs l hp hl
   split at hx
   ·rename_i hh NK
    split at hx
    ·rename_i cd
     obtain⟨rfl,k1,k2,k3⟩:=cd
     injection hx with hx
     subst hx
     exact Wn r rfl hN c1 h1 h2 h4 h5 (vF l hl) (tM xs.length hh NK) k1 k2 k3 (.inr ⟨xs,hp,rfl,rfl⟩)
    ·cases hx
   ·cases hx
  ·cases hx
 |tail sz mx ml=>
  cases op<;>simp only[dV] at hc<;>first|cases hc|skip
  rename_i t x lo hi mm
  cases mm<;>cases hi<;>cases lo<;>simp only[dV] at hc<;>first|cases hc|skip
  rename_i y
  simp only[Bool.and_eq_true] at hc
  obtain⟨⟨c1,c2⟩,c4⟩:=hc
  obtain⟨e,i,z,h1,h2,h3,h4,h5,_⟩:=vk c4
  simp only[aI] at hx
  split at hx
  ·rename_i n a0 s len l hp hl
   split at hx
   ·rename_i m rs xs hn
    split at hx
    ·rename_i cd
     obtain⟨rfl,rfl,rfl,k1,k2⟩:=cd
     split at hx
     ·rename_i σ1 e1
      injection hx with hx
      subst hx
      exact adT r rfl rfl (hN _ rfl) c1 c2 h1 h2 h4 h5 hp hl k1 k2 hn e1
     ·cases hx
    ·cases hx
   ·cases hx
  ·cases hx
 |ak off mx=>
  cases op<;>simp only[dV] at hc<;>first|cases hc|skip
  simp only[Bool.and_eq_true] at hc
  simp only[aI] at hx
  split at hx
  ·rename_i n k sz q hp
   split at hx
   ·rename_i hn
    injection hx with hx
    subst hx
    exact Wh r rfl hN hc.1 hc.2 (.inl ⟨_,_,_,_,hp,hn,rfl⟩)
   ·cases hx
  ·rename_i xs q hp
   injection hx with hx
   subst hx
   exact Wh r rfl hN hc.1 hc.2 (.inr ⟨_,_,hp,rfl⟩)
  ·cases hx
 |bO sz mx mi=>
  cases op<;>simp only[dV] at hc<;>first|cases hc|skip
  simp only[Bool.and_eq_true] at hc
  obtain⟨⟨c1,c2⟩,c3⟩:=hc
  obtain⟨e,i,z,h1,h2,h3,h4,h5,_⟩:=vk c3
  simp only[aI] at hx
  split at hx
  ·rename_i n s lo len k hp hk
   split at hx
   ·rename_i cd
    obtain⟨rfl,k1,k2,k3⟩:=cd
    injection hx with hx
    subst hx
    exact Wi r rfl hN c1 c2 h1 h2 h4 hk k1 (.inl ⟨_,_,_,hp,k2,k3,rfl⟩)
   ·cases hx
  ·rename_i s xs k hp hk
   split at hx
   ·rename_i cd
    obtain⟨rfl,k1⟩:=cd
    split at hx
    ·rename_i el mF
     injection hx with hx
     subst hx
     exact Wi r rfl hN c1 c2 h1 h2 h4 hk k1 (.inr ⟨_,_,hp,mF,rfl⟩)
    ·cases hx
   ·cases hx
  ·rename_i n kk ax off s len k hp hk
   split at hx
   ·rename_i s' ys Oi
    split at hx
    ·rename_i cd
     obtain⟨rfl,k1,k2⟩:=cd
     injection hx with hx
     subst hx
     exact adK r rfl hN c1 c2 h1 h2 h4 hk k1 k2 hp Oi
    ·cases hx
   ·cases hx
  ·cases hx
 |ext i mx=>
  cases op<;>simp only[dV] at hc<;>first|cases hc|skip
  simp only[Bool.and_eq_true,beq_iff_eq] at hc
  obtain⟨rfl,c1⟩:=hc
  simp only[aI] at hx
  split at hx
  ·rename_i xs hp
   split at hx
   ·rename_i ag cs dG
    injection hx with hx
    subst hx
    refine adI r rfl hN c1 hp dG fun bn=>?_
    subst bn
    obtain⟨y1,_⟩:=r.ev c1
    rw[hp] at y1
    obtain⟨vs,_,hl,hv⟩:=y1
    have hi:i<vs.length:=by rw[hl];exact(List.getElem?_eq_some_iff.1 dG).1
    have:cj w G σ.h cs [vs[i]]:=hv i (false,cs) vs[i] dG (List.getElem?_eq_getElem hi)
    exact List.length_eq_one_iff.1 this.1.symm
   ·cases hx
  ·cases hx
 |mA ag off sz mx=>
  cases op<;>simp only[dV] at hc<;>first|cases hc|skip
  simp only[Bool.and_eq_true] at hc
  simp only[aI] at hx
  split at hx
  ·rename_i cs hp
   split at hx
   ·rename_i l hl
    injection hx with hx
    subst hx
    exact adJ r rfl hN hc.1 hc.2 hp hl
   ·cases hx
  ·cases hx
 |lr f bE mx=>
  cases op<;>simp only[dV] at hc<;>first|cases hc|skip
  rename_i c
  obtain⟨cal,args,Ve⟩:=c
  simp only at hc
  split at hc
  ·rename_i g x qJ
   simp only[Bool.and_eq_true,beq_iff_eq] at hc
   obtain⟨⟨⟨hfg,c1⟩,c2⟩,c3⟩:=hc
   subst hfg
   have ea:args=#[x]:=by apply Array.ext';simpa using qJ
   subst ea
   simp only[aI] at hx
   split at hx
   ·rename_i n sz lo len hp
    split at hx
    ·rename_i hs
     injection hx with hx
     subst hx
     exact Mj r hN rfl c1 c2 c3 hp (.inl ⟨n,sz,lo,rfl,hs⟩)
    ·cases hx
   ·rename_i sz xs hp
    injection hx with hx
    subst hx
    exact Mj r hN rfl c1 c2 c3 hp (.inr (.inl ⟨sz,xs,rfl,rfl⟩))
   ·rename_i sz hp
    injection hx with hx
    subst hx
    exact Mj r (len:=0) hN rfl c1 c2 c3 hp (.inr (.inr ⟨sz,rfl,rfl⟩))
   ·cases hx
  ·cases hc
 |len mx=>
  cases op<;>simp only[dV] at hc<;>first|cases hc|skip
  rename_i c
  obtain⟨callee,args,argTypes⟩:=c
  split at hc
  ·rename_i x t bI ha ht
   simp only at bI ha ht
   subst bI
   have tE:args=#[x]:=by apply Array.ext';exact ha
   have yh:argTypes=#[t]:=by apply Array.ext';exact ht
   subst tE yh
   simp only[Bool.and_eq_true] at hc
   obtain⟨c1,c2⟩:=hc
   split at c2
   ·rename_i e hu
    simp only[aI] at hx
    split at hx
    ·rename_i n sz lo len hp
     split at hx
     ·rename_i hn
      injection hx with hx
      subst hx
      exact Hz r rfl hN c1 hu (.inl ⟨_,_,_,hp,hn⟩)
     ·cases hx
    ·rename_i sz xs hp
     injection hx with hx
     subst hx
     exact Hz r rfl hN c1 hu (.inr (.inl ⟨_,_,hp,rfl⟩))
    ·rename_i sz hp
     injection hx with hx
     subst hx
     exact Hz r rfl hN c1 hu (.inr (.inr (.inl ⟨_,hp,rfl⟩)))
    ·rename_i n k ax off sz len hp
     split at hx
     ·rename_i s ys qU
      injection hx with hx
      subst hx
      exact Hz r rfl hN c1 hu (.inr (.inr (.inr ⟨_,_,_,_,_,_,_,_,hp,qU,rfl⟩)))
     ·cases hx
    ·cases hx
   ·cases c2
  ·cases hc
 |append fl sz by_ mx my=>
  cases op<;>simp only[dV] at hc<;>first|cases hc|skip
  rename_i c
  obtain⟨callee,args,argTypes⟩:=c
  split at hc
  ·rename_i x y t t' bI ha ht
   simp only at bI ha ht
   subst bI
   have tE:args=#[x,y]:=by apply Array.ext';exact ha
   have yh:argTypes=#[t,t']:=by apply Array.ext';exact ht
   subst tE yh
   simp only[Bool.and_eq_true,beq_iff_eq] at hc
   obtain⟨⟨⟨rfl,c1⟩,c2⟩,c3⟩:=hc
   obtain⟨e,i,z,h1,h2,h3,h4,h5,h6⟩:=vk c3
   simp only[Bool.and_eq_true,beq_iff_eq,decide_eq_true_eq] at h6
   simp only[aI] at hx
   split at hx
   ·cases hx
   ·rename_i n
    split at hx
    ·cases hx
    ·rename_i xs m σ1 hl
     split at hx
     ·cases hx
     ·rename_i ys m2 σ2 hr
      split at hx
      ·rename_i hb
       split at hx
       ·rename_i f9 hi
        injection hx with hx
        subst hx
        exact adq r rfl rfl (hN _ rfl) c1 c2 h1 h2 h3 h4 h5 h6.1.1 h6.1.2 h6.2 hl hr hb hi
       ·cases hx
      ·cases hx
  ·cases hc
 |copy sz mx my=>
  cases op<;>simp only[dV] at hc<;>first|cases hc|skip
  rename_i c
  obtain⟨callee,args,argTypes⟩:=c
  split at hc
  ·rename_i x y t t' bI ha ht
   simp only at bI ha ht
   subst bI
   have tE:args=#[x,y]:=by apply Array.ext';exact ha
   have yh:argTypes=#[t,t']:=by apply Array.ext';exact ht
   subst tE yh
   simp only[Bool.and_eq_true,beq_iff_eq] at hc
   obtain⟨⟨⟨c0,c1⟩,c2⟩,c3⟩:=hc
   obtain⟨e,i,z,h1,h2,h3,h4,h5,_⟩:=vk c3
   simp only[aI] at hx
   split at hx
   ·rename_i n s lo len cc hp hq
    split at hx
    ·rename_i gr m rs xs s' ys hn hv
     split at hx
     ·rename_i cd
      obtain⟨rfl,rfl,rfl,rfl,k1,k2,k3,k4⟩:=cd
      injection hx with hx
      subst hx
      exact adE r rfl hN c1 c2 h1 h2 h4 hp hq hn hv k1 k2 k3 k4
     ·cases hx
    ·cases hx
   ·cases hx
  ·cases hc
 |j7 zc mx=>
  cases op<;>simp only[dV] at hc<;>first|cases hc|skip
  rename_i c
  obtain⟨callee,args,argTypes⟩:=c
  split at hc
  ·rename_i x t bI ha ht
   simp only at bI ha ht
   subst bI
   have tE:args=#[x]:=by apply Array.ext';exact ha
   have yh:argTypes=#[t]:=by apply Array.ext';exact ht
   subst tE yh
   simp only[Bool.and_eq_true] at hc
   obtain⟨c1,c3⟩:=hc
   obtain⟨e,i,z,h1,h2,h3,h4,h5,h6⟩:=vk c3
   simp only[aI] at hx
   split at hx
   ·rename_i n s lo len hp
    split at hx
    ·rename_i gr m rs xs hn
     split at hx
     ·rename_i cd
      obtain⟨rfl,rfl,k0,k1,k2,k3⟩:=cd
      injection hx with hx
      subst hx
      exact adC r rfl hN c1 h1 h2 h3 h6 k0 hp hn k1 k2 k3
     ·cases hx
    ·cases hx
   ·cases hx
  ·cases hc
 |mm b mx my=>
  cases op<;>simp only[dV] at hc<;>first|cases hc|skip
  rename_i c
  obtain⟨callee,args,argTypes⟩:=c
  have cq:∀x y,callee=.builtin (if b=true then .max else .min)->args=#[x,y]->bq x mx=true->bq y my=true->
    Oper.wp P ⟨dst,.call ⟨callee,args,argTypes⟩,ty,pos,after,guard⟩ a w (Nx B E w0 N σ') Q:=by
   intro x y bI ha c1 c2
   subst bI ha
   simp only[aI] at hx
   split at hx
   ·rename_i k n k' m h1 h2
    have:=adO (P:=P) (Q:=Q) (mx':=b) r (o:=⟨dst,.call ⟨.builtin (if b=true then .max else .min),#[x,y],argTypes⟩,ty,pos,after,guard⟩) rfl hN c1 c2 h1 h2
    cases b
    ·simp at hx this
     split at hx<;>(rename_i bN;injection hx with hx;subst hx;simpa[bN] using this)
    ·simp at hx this
     split at hx<;>(rename_i bN;injection hx with hx;subst hx;simpa[bN] using this)
   ·cases hx
  split at hc
  ·rename_i x y bI ha
   simp only[Bool.and_eq_true] at hc
   obtain⟨⟨rfl,c1⟩,c2⟩:=hc
   exact cq x y bI (by apply Array.ext';exact ha) c1 c2
  ·rename_i x y bI ha
   simp only[Bool.and_eq_true,Bool.not_eq_true'] at hc
   obtain⟨⟨rfl,c1⟩,c2⟩:=hc
   exact cq x y bI (by apply Array.ext';exact ha) c1 c2
  ·cases hc
 |call m f ms=>
  cases op<;>simp only[dV] at hc<;>first|cases hc|skip
  rename_i c
  obtain⟨callee,args,argTypes⟩:=c
  split at hc
  ·rename_i g bI
   simp only at bI
   subst bI
   simp only[Bool.and_eq_true,beq_iff_eq] at hc
   obtain⟨⟨rfl,c1⟩,c2⟩:=hc
   exact adx r hT hN rfl c1 c2 hx
  ·cases hc
 |lA f ms=>
  cases op<;>simp only[dV] at hc<;>first|cases hc|skip
  rename_i c
  obtain⟨callee,args,argTypes⟩:=c
  split at hc
  ·rename_i g bI
   simp only at bI
   subst bI
   simp only[Bool.and_eq_true,beq_iff_eq] at hc
   obtain⟨⟨rfl,c1⟩,c2⟩:=hc
   simp only[aI] at hx
   split at hx
   ·rename_i z hz
    injection hx with hx
    subst hx
    exact adz r hT hN rfl c1 c2 hz
   ·cases hx
  ·cases hc
 |eQ m f ms=>
  cases op<;>simp only[dV] at hc<;>first|cases hc|skip
  rename_i c
  obtain⟨callee,args,argTypes⟩:=c
  split at hc
  ·rename_i g bI
   simp only at bI
   subst bI
   simp only[Bool.and_eq_true,beq_iff_eq] at hc
   obtain⟨⟨rfl,c1⟩,c2⟩:=hc
   simp only[aI] at hx
   exact adA r hTM hN rfl c1 c2 hx
  ·cases hc
 |iJ f ms=>
  cases op<;>simp only[dV] at hc<;>first|cases hc|skip
  rename_i c
  obtain⟨callee,args,argTypes⟩:=c
  split at hc
  ·rename_i g bI
   simp only at bI
   subst bI
   simp only[Bool.and_eq_true,beq_iff_eq] at hc
   obtain⟨⟨rfl,c1⟩,c2⟩:=hc
   simp only[aI] at hx
   exact ady r hTV hN rfl c1 c2 hx
  ·cases hc
 |oN f ms=>
  cases op<;>simp only[dV] at hc<;>first|cases hc|skip
  rename_i fn first xs
  cases fn<;>simp only at hc<;>first|cases hc|skip
  simp only[Bool.and_eq_true,beq_iff_eq] at hc
  obtain⟨⟨⟨rfl,c0⟩,c1⟩,c2⟩:=hc
  have hf0:first=#[]:=by simpa using c0
  subst hf0
  obtain⟨g1,g2⟩:=LR c2
  simp only[aI] at hx
  split at hx
  ·rename_i cs dG
   split at hx
   ·rename_i hj
    injection hx with hx
    subst hx
    exact adM r rfl hN ⟨by simpa using g1.symm,g2⟩ dG (fun c hc fG=>by
     have:=List.all_eq_true.1 hj c hc
     subst fG
     simp[ah.Em] at this)
   ·cases hx
  ·cases hx
 |lB m mx ms=>
  cases op<;>simp only[dV] at hc<;>first|cases hc|skip
  rename_i c
  obtain⟨callee,args,argTypes⟩:=c
  split at hc
  ·rename_i t bI
   simp only at bI
   subst bI
   simp only[Bool.and_eq_true] at hc
   simp only[aI] at hx
   split at hx
   ·rename_i f bR hp
    have hfk:bD P f=true:=by
     have eg:=hx
     unfold qx at eg
     split at eg
     ·split at eg
      ·rename_i M hM;exact hF f M hM
      ·cases eg
     ·cases eg
    exact adB r hT hN rfl hfk hc.1 hc.2 hp hx
   ·cases hx
  ·cases hc
end
end Go.Am
