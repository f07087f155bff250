/- Am17: is an operation of the program what the abstract one says? No condition. -/
import Derived.Test.YtifmggmhdcdgbaaAmR
import Derived.Test.YtifmggmhdcdgbaaAmV
set_option linter.unusedVariables false
set_option linter.unusedSimpArgs false
namespace Go.Am
def zl:Option Operand->Option MO->Bool
 |none,none=>true
 |some x,some m=>bw x m
 |_,_=>false
def rD (P:Program) (t:TypeId) (sz:Nat) (k:TypeInfo->Value->Bool):Bool:=
 match P.underlying t with
 |some (.slice e)=>match P.info? e with
  |some i=>match i.zero with
   |some z=>i.size==sz&&decide (0<sz)&&k i z
   |none=>false
  |none=>false
 |_=>false
theorem uN {P:Program} {t:TypeId} {sz:Nat} {k:TypeInfo->Value->Bool} (h:rD P t sz k=true):
  ∃e i z,P.underlying t=some (.slice e)/\P.info? e=some i/\i.zero=some z/\i.size=sz/\0<sz/\k i z=true:=by
 unfold rD at h
 split at h
 ·rename_i e he
  split at h
  ·rename_i i hi
   split at h
   ·rename_i z hz
    simp only[Bool.and_eq_true,beq_iff_eq,decide_eq_true_eq] at h
    exact⟨e,i,z,he,hi,hz,h.1.1,h.1.2,h.2⟩
   ·cases h
  ·cases h
 ·cases h
def F7 (P:Program) (t:TypeId) (zs:List ai):Bool:=
 match P.info? t with
 |some i=>match i.zero with
  |some z=>rC z.cells.toList zs
  |none=>false
 |none=>false
theorem TH {P:Program} {t:TypeId} {zs:List ai} (h:F7 P t zs=true):∃i z,P.info? t=some i/\i.zero=some z/\rC z.cells.toList zs=true:=by
 unfold F7 at h
 split at h
 ·rename_i i hi
  split at h
  ·rename_i z hz;exact⟨i,z,hi,hz,h⟩
  ·cases h
 ·cases h
def TA (P:Program) (t:TypeId) (parts:List (Nat×Operand)) (zs:List ai) (ms:List (Nat×Nat×MO)):Bool:=
 match P.underlying t with
 |some (.struct nh)=>match nh.toList.mapM (fun f=>(P.info? f.type).map fun i=>(f.offset,i.size)) with
  |some places=>F7 P t zs&&wW places parts ms
  |none=>false
 |_=>false
def TG (P:Program) (t:TypeId) (sz:Nat):Bool:=
 match P.info? t with
 |some i=>i.size==sz&&decide (0<sz)
 |none=>false
def TC (P:Program) (t u:TypeId) (k:IntKind):Bool:=
 match P.underlying t,P.underlying u with
 |some _,some (.int k')=>k==k'
 |_,_=>false
def WN (P:Program) (t:TypeId):Bool:=
 match P.underlying t with
 |some .bool=>true
 |_=>false
def dV (P:Program) (o:Oper) (mo:aC):Bool:=
 match mo,o.op with
 |.mv m,.move x=>bw x m
 |.mv m,.assign x=>bw x m
 |.pick c x y,.pick c' x' y'=>bw c' c&&bw x' x&&bw y' y
 |.alloc zs,.alloc e=>F7 P e zs
 |.box sz m,.box e x=>bw x m
 |.build zs ms,.build t parts=>TA P t parts.toList zs ms
 |.fg sz ms,.buildSlice t len parts=>rD P t sz (fun _ _=>true)&&(ms.length==len)&&decide (parts.toList.map (·.1)=List.range len)&&decide (len*sz<=16777216)&&gW (parts.toList.map (·.2)) ms
 |.load ag sz m,.load t x=>bw x m&&oW P t ag sz
 |.mQ ag sz m,.load t x=>bw x m&&oW P t ag sz
 |.store sz mx my,.store t x y=>o.dst.isNone&&bw x mx&&bw y my&&TG P t sz
 |.ga m,.nilCheck x=>bw x m
 |.bin op mx my,.binOp vP t x y t'=>decide (op=vP)&&bw x mx&&bw y my
 |.nV op mx my,.binOp vP t x y t'=>decide (op=vP)&&bw x mx&&bw y my&&WN P t
 |.un op mx,.unOp vP t x=>decide (op=vP)&&bw x mx
 |.conv k mx,.convert t u x=>bw x mx&&TC P t u k
 |.mb m sz by_ zs ml mc,.makeSlice t l c=>bw l ml&&bw c mc&&rD P t sz (fun i z=>(i.bytes==by_)&&decide (0<by_)&&s8 z.cells.toList zs)
 |.slice sz mx HU HP,.slice t x lo hi none=>bw x mx&&zl lo HU&&zl hi HP&&rD P t sz (fun _ _=>true)
 |.tail sz mx ml,.slice t x (some y) none none=>bw x mx&&bw y ml&&rD P t sz (fun _ _=>true)
 |.aB off mx,.fieldAddr s x f=>bw x mx&&F4 P s f off
 |.dZ sz mx mi,.indexAddr t x i=>bw x mx&&bw i mi&&rD P t sz (fun _ _=>true)
 |.ext i mx,.extract x j=>(i==j)&&bw x mx
 |.kj ag off sz mx,.field s x f=>bw x mx&&Kc P s f off ag sz
 |.kE f bD mx,.call c=>match c.callee,c.args.toList with
  |.value (.func g),[x]=>(f==g)&&cg P f&&F6 P f bD&&bw x mx
  |_,_=>false
 |.len mx,.call c=>match c.callee,c.args.toList,c.argTypes.toList with
  |.builtin .len,[x],[t]=>bw x mx&&(match P.underlying t with|some (.slice _)=>true|_=>false)
  |_,_,_=>false
 |.append fl sz by_ mx my,.call c=>match c.callee,c.args.toList,c.argTypes.toList with
  |.builtin .append,[x,y],[t,t']=>(t==t')&&bw x mx&&bw y my&&rD P t sz (fun i z=>(i.bytes==by_)&&decide (0<by_)&&(z.cells.size==sz))
  |_,_,_=>false
 |.copy sz mx my,.call c=>match c.callee,c.args.toList,c.argTypes.toList with
  |.builtin .copy,[x,y],[t,t']=>(sz==1)&&bw x mx&&bw y my&&rD P t 1 (fun _ _=>true)
  |_,_,_=>false
 |.ki zc mx,.call c=>match c.callee,c.args.toList,c.argTypes.toList with
  |.builtin .clear,[x],[t]=>bw x mx&&rD P t 1 (fun _ z=>s8 z.cells.toList [zc])
  |_,_,_=>false
 |.mm b mx my,.call c=>match c.callee,c.args.toList with
  |.builtin .max,[x,y]=>b&&bw x mx&&bw y my
  |.builtin .min,[x,y]=> !b&&bw x mx&&bw y my
  |_,_=>false
 |.call m f ms,.call c=>match c.callee with
  |.value (.func g)=>(f==g)&&cg P f&&gW c.args.toList ms
  |_=>false
 |.lG f ms,.call c=>match c.callee with
  |.value (.func g)=>(f==g)&&cg P f&&gW c.args.toList ms
  |_=>false
 |.fT m f ms,.call c=>match c.callee with
  |.value (.func g)=>(f==g)&&cg P f&&gW c.args.toList ms
  |_=>false
 |.dn f ms,.call c=>match c.callee with
  |.value (.func g)=>(f==g)&&cg P f&&gW c.args.toList ms
  |_=>false
 |.oA f ms,.makeFunc (.func g) first xs=>(f==g)&&first.isEmpty&&cg P f&&gW xs.toList ms
 |.lH m mx ms,.call c=>match c.callee with
  |.value (.tmp t)=>bw (.tmp t) mx&&gW c.args.toList ms
  |_=>false
 |_,_=>false
theorem Kd:∀{xs:List Operand} {ms:List MO},gW xs ms=true->xs.length=ms.length/\∀(j:Nat) (x:Operand) (m:MO),xs[j]? =some x->ms[j]? =some m->bw x m=true
 |[],[],_=>⟨rfl,by simp⟩
 |x::xs,m::ms,hc=>by
  simp only[gW,Bool.and_eq_true] at hc
  obtain⟨i1,i2⟩:=Kd hc.2
  refine⟨by simp[i1],fun j x' m' hj hm=>?_⟩
  cases j with
  |zero=>simp at hj hm;subst hj;subst hm;exact hc.1
  |succ j=>exact i2 j x' m' (by simpa using hj) (by simpa using hm)
 |[],_::_,hc=>by simp[gW] at hc
 |_::_,[],hc=>by simp[gW] at hc
section
variable {B:Nat} {E:Ex} {w0 w w':World} {G G':Gh} {h h':Nat->Option aq} {used used':Nat->Bool} {tk:List PC} {N:Nat}
variable {P:Program} {o:Oper} {a:Act} {σ σ':St} {Q:Exit->Act->World->Prop}
theorem Uq (r:R B E w0 N σ a w G) {T:bg} (hT:wP P T) (hTM:E4 P T) (hTV:E5 P T) (hF:∀f M,bg.find T.pure f=some M->cg P f=true) {mo:aC} (hN:∀n,o.dst=some n->n<N) (hc:dV P o mo=true) (hx:aE T o.dst mo σ=some σ'):
  o.wp P a w (Nx B E w0 N σ') Q:=by
 obtain⟨dst,op,ty,pos,after,guard⟩:=o
 cases mo with
 |mv m=>
  simp only[aE] at hx
  injection hx with hx
  subst hx
  cases op<;>simp only[dV] at hc<;>first|cases hc|skip
  ·exact Uo r (.inl rfl) hN hc
  ·exact Uo r (.inr rfl) hN hc
 |pick c x y=>
  cases op<;>simp only[dV] at hc<;>first|cases hc|skip
  rename_i c' x' y'
  simp only[Bool.and_eq_true] at hc
  simp only[aE] at hx
  split at hx
  ·rename_i b hb
   have:=abL (P:=P) (Q:=Q) r (o:=⟨dst,.pick c' x' y',ty,pos,after,guard⟩) rfl hN hc.1.1 hc.1.2 hc.2 hb
   cases b<;>simp at hx<;>subst hx<;>exact this
  ·cases hx
 |alloc zs=>
  cases op<;>simp only[dV] at hc<;>first|cases hc|skip
  obtain⟨i,z,h1,h2,h3⟩:=TH hc
  simp only[aE] at hx
  split at hx
  ·rename_i n
   split at hx
   ·rename_i σ1 hi
    injection hx with hx
    subst hx
    exact abl r rfl rfl (hN n rfl) h1 h2 h3 hi
   ·cases hx
  ·cases hx
 |box sz m=>
  cases op<;>simp only[dV] at hc<;>first|cases hc|skip
  simp only[aE] at hx
  split at hx
  ·rename_i n ag cs dL
   split at hx
   ·split at hx
    ·rename_i σ1 hi
     injection hx with hx
     subst hx
     exact abp r rfl rfl (hN _ rfl) hc dL hi
    ·cases hx
   ·cases hx
  ·cases hx
 |build zs ms=>
  cases op<;>simp only[dV] at hc<;>first|cases hc|skip
  simp only[aE] at hx
  split at hx
  ·rename_i cs dL
   injection hx with hx
   subst hx
   unfold TA at hc
   split at hc
   ·rename_i nh hu
    split at hc
    ·rename_i places fM
     simp only[Bool.and_eq_true] at hc
     obtain⟨i,z,h1,h2,h3⟩:=TH hc.1
     exact abr r rfl hN h1 h2 hu fM h3 hc.2 dL
    ·cases hc
   ·cases hc
  ·cases hx
 |fg sz ms=>
  cases op<;>simp only[dV] at hc<;>first|cases hc|skip
  simp only[Bool.and_eq_true,beq_iff_eq,decide_eq_true_eq] at hc
  obtain⟨⟨⟨⟨c1,c2⟩,c3⟩,c4⟩,c5⟩:=hc
  obtain⟨e,i,z,h1,h2,h3,h4,h5,_⟩:=uN c1
  simp only[aE] at hx
  split at hx
  ·rename_i n es ow σ1 zY
   split at hx
   ·rename_i σ2 hi
    injection hx with hx
    subst hx
    refine abq r rfl rfl (hN _ rfl) h1 h2 h3 h4 h5 c2 c3 c4 (fun j p m hp hm=>?_) zY hi
    exact(Kd c5).2 j p.2 m (by simp[hp]) hm
   ·cases hx
  ·cases hx
 |load ag sz m=>
  cases op<;>simp only[dV] at hc<;>first|cases hc|skip
  simp only[Bool.and_eq_true] at hc
  simp only[aE] at hx
  split at hx
  ·rename_i p hp
   split at hx
   ·rename_i cs dL
    injection hx with hx
    subst hx
    exact Un r rfl hN hc.1 hc.2 hp dL
   ·cases hx
  ·cases hx
 |mQ ag sz m=>
  cases op<;>simp only[dV] at hc<;>first|cases hc|skip
  simp only[Bool.and_eq_true] at hc
  simp only[aE] at hx
  split at hx
  ·rename_i p hp
   split at hx
   ·rename_i σ1 hf
    split at hx
    ·rename_i cs dL
     injection hx with hx
     subst hx
     exact abH r rfl hN hc.1 hc.2 hp hf dL
    ·cases hx
   ·cases hx
  ·cases hx
 |store sz mx my=>
  cases op<;>simp only[dV] at hc<;>first|cases hc|skip
  simp only[Bool.and_eq_true] at hc
  obtain⟨⟨⟨c0,c1⟩,c2⟩,c3⟩:=hc
  have hd:dst=none:=by simpa using c0
  unfold TG at c3
  split at c3
  ·rename_i i hi
   simp only[Bool.and_eq_true,beq_iff_eq,decide_eq_true_eq] at c3
   simp only[aE] at hx
   split at hx
   ·rename_i n k ax off ag vs hp hv
    split at hx
    ·rename_i hl
     split at hx
     ·rename_i cs hn
      split at hx
      ·rename_i hk
       injection hx with hx
       subst hx
       exact abM r rfl hd c1 c2 hi c3.1 c3.2 hp hv hl hn hk.1 hk.2
      ·cases hx
     ·rename_i gr m rs xs hn
      split at hx
      ·rename_i qH
       subst qH
       split at hx
       ·rename_i el mG
        exact abO r rfl hd c1 c2 hi c3.1 c3.2 hp hv hl hn mG hx
       ·cases hx
      ·cases hx
     ·cases hx
    ·cases hx
   ·rename_i n k ax off s i ag vs hp hv
    split at hx
    ·rename_i hl
     split at hx
     ·rename_i gr rs xs hn
      split at hx
      ·rename_i qH
       subst qH
       split at hx
       ·rename_i ar mL
        injection hx with hx
        subst hx
        exact abN r rfl hd c1 c2 hi c3.1 c3.2 hp hv hl hn mL
       ·cases hx
      ·cases hx
     ·cases hx
    ·cases hx
   ·cases hx
  ·cases c3
 |ga m=>
  cases op<;>simp only[dV] at hc<;>first|cases hc|skip
  simp only[aE] at hx
  split at hx
  ·rename_i n k sz off hp
   split at hx
   ·rename_i hn
    injection hx with hx
    subst hx
    rw[<-hp]
    exact Up r rfl hN hc (.inl ⟨_,_,_,_,hp,hn⟩)
   ·cases hx
  ·rename_i xs off hp
   injection hx with hx
   subst hx
   rw[<-hp]
   exact Up r rfl hN hc (.inr ⟨_,_,hp⟩)
  ·cases hx
 |bin vP mx my=>
  cases op<;>simp only[dV] at hc<;>first|cases hc|skip
  simp only[Bool.and_eq_true,decide_eq_true_eq] at hc
  obtain⟨⟨rfl,c1⟩,c2⟩:=hc
  simp only[aE] at hx
  split at hx
  ·rename_i c hb
   injection hx with hx
   subst hx
   exact abn r rfl hN c1 c2 hb
  ·cases hx
 |nV vP mx my=>
  cases op<;>simp only[dV] at hc<;>first|cases hc|skip
  simp only[Bool.and_eq_true,decide_eq_true_eq] at hc
  obtain⟨⟨⟨rfl,c1⟩,c2⟩,c3⟩:=hc
  unfold WN at c3
  split at c3
  ·rename_i ht
   simp only[aE] at hx
   split at hx
   ·rename_i c hb
    injection hx with hx
    subst hx
    exact abo r rfl hN c1 c2 ht hb
   ·cases hx
  ·cases c3
 |un vP mx=>
  cases op<;>simp only[dV] at hc<;>first|cases hc|skip
  simp only[Bool.and_eq_true,decide_eq_true_eq] at hc
  obtain⟨rfl,c1⟩:=hc
  simp only[aE] at hx
  split at hx
  ·rename_i c hb
   injection hx with hx
   subst hx
   exact abQ r rfl hN c1 hb
  ·cases hx
 |conv k mx=>
  cases op<;>simp only[dV] at hc<;>first|cases hc|skip
  simp only[Bool.and_eq_true] at hc
  obtain⟨c1,c2⟩:=hc
  unfold TC at c2
  split at c2
  ·rename_i d k' ht hu
   have hk:k=k':=by simpa using c2
   subst hk
   simp only[aE] at hx
   split at hx
   ·rename_i k2 n hb
    injection hx with hx
    subst hx
    exact abz r rfl hN c1 ht hu hb
   ·cases hx
  ·cases c2
 |mb m sz by_ zs ml mc=>
  cases op<;>simp only[dV] at hc<;>first|cases hc|skip
  simp only[Bool.and_eq_true] at hc
  obtain⟨⟨c1,c2⟩,c3⟩:=hc
  obtain⟨e,i,z,h1,h2,h3,h4,h5,h6⟩:=uN c3
  simp only[Bool.and_eq_true,beq_iff_eq,decide_eq_true_eq] at h6
  simp only[aE] at hx
  split at hx
  ·rename_i n q q' hq dM
   split at hx
   ·rename_i cz
    obtain⟨k1,k2,k3,k4⟩:=cz
    split at hx
    ·rename_i σ1 hi
     injection hx with hx
     subst hx
     exact abJ r rfl rfl (hN _ rfl) c1 c2 h1 h2 h3 h4 h6.1.1 h6.1.2 h5 h6.2 hq dM k1 k2 k3 k4 hi
    ·cases hx
   ·cases hx
  ·cases hx
 |slice sz mx HU HP=>
  cases op<;>simp only[dV] at hc<;>first|cases hc|skip
  rename_i t x lo hi mm
  cases mm<;>simp only[dV] at hc<;>first|cases hc|skip
  simp only[Bool.and_eq_true] at hc
  obtain⟨⟨⟨c1,c2⟩,c3⟩,c4⟩:=hc
  obtain⟨e,i,z,h1,h2,h3,h4,h5,_⟩:=uN c4
  have vb:∀l,(match HU with|none=>some 0|some l=>(σ.ev l).cX)=some l->(lo=none/\l=0)\/∃y my,lo=some y/\bw y my=true/\(σ.ev my).cX=some l:=by
   intro l hl
   cases HU with
   |none=>cases lo<;>simp[zl] at c2;simp at hl;exact .inl ⟨rfl,hl.symm⟩
   |some my=>cases lo<;>simp[zl] at c2;exact .inr ⟨_,my,rfl,c2,hl⟩
  have tr:∀(len:Nat) hh,(match HP with|none=>some (len:Int)|some h=>(σ.ev h).cX)=some hh->(hi=none/\hh=len)\/∃y my,hi=some y/\bw y my=true/\(σ.ev my).cX=some hh:=by
   intro len l hl
   cases HP with
   |none=>cases hi<;>simp[zl] at c3;simp at hl;exact .inl ⟨rfl,hl.symm⟩
   |some my=>cases hi<;>simp[zl] at c3;exact .inr ⟨_,my,rfl,c3,hl⟩
  simp only[aE] at hx
  split at hx
  ·rename_i n s l0 len l hp hl
   split at hx
   ·rename_i hh LO
    split at hx
    ·rename_i cz
     obtain⟨rfl,k1,k2,k3,k4⟩:=cz
     injection hx with hx
     subst hx
     exact Ur r rfl hN c1 h1 h2 h4 h5 (vb l hl) (tr len hh LO) k1 k2 k3 (.inl ⟨n,l0,hp,k4,rfl⟩)
    ·cases hx
   ·cases hx
  ·rename_i s xs l hp hl
   split at hx
   ·rename_i hh LO
    split at hx
    ·rename_i cz
     obtain⟨rfl,k1,k2,k3⟩:=cz
     injection hx with hx
     subst hx
     exact Ur r rfl hN c1 h1 h2 h4 h5 (vb l hl) (tr xs.length hh LO) k1 k2 k3 (.inr ⟨xs,hp,rfl,rfl⟩)
    ·cases hx
   ·cases hx
  ·cases hx
 |tail sz mx ml=>
  cases op<;>simp only[dV] at hc<;>first|cases hc|skip
  rename_i t x lo hi mm
  cases mm<;>cases hi<;>cases lo<;>simp only[dV] at hc<;>first|cases hc|skip
  rename_i y
  simp only[Bool.and_eq_true] at hc
  obtain⟨⟨c1,c2⟩,c4⟩:=hc
  obtain⟨e,i,z,h1,h2,h3,h4,h5,_⟩:=uN c4
  simp only[aE] at hx
  split at hx
  ·rename_i n a0 s len l hp hl
   split at hx
   ·rename_i m rs xs hn
    split at hx
    ·rename_i cz
     obtain⟨rfl,rfl,rfl,k1,k2⟩:=cz
     split at hx
     ·rename_i σ1 e1
      injection hx with hx
      subst hx
      exact abP r rfl rfl (hN _ rfl) c1 c2 h1 h2 h4 h5 hp hl k1 k2 hn e1
     ·cases hx
    ·cases hx
   ·cases hx
  ·cases hx
 |aB off mx=>
  cases op<;>simp only[dV] at hc<;>first|cases hc|skip
  simp only[Bool.and_eq_true] at hc
  simp only[aE] at hx
  split at hx
  ·rename_i n k sz q hp
   split at hx
   ·rename_i hn
    injection hx with hx
    subst hx
    exact Ul r rfl hN hc.1 hc.2 (.inl ⟨_,_,_,_,hp,hn,rfl⟩)
   ·cases hx
  ·rename_i xs q hp
   injection hx with hx
   subst hx
   exact Ul r rfl hN hc.1 hc.2 (.inr ⟨_,_,hp,rfl⟩)
  ·cases hx
 |dZ sz mx mi=>
  cases op<;>simp only[dV] at hc<;>first|cases hc|skip
  simp only[Bool.and_eq_true] at hc
  obtain⟨⟨c1,c2⟩,c3⟩:=hc
  obtain⟨e,i,z,h1,h2,h3,h4,h5,_⟩:=uN c3
  simp only[aE] at hx
  split at hx
  ·rename_i n s lo len k hp hk
   split at hx
   ·rename_i cz
    obtain⟨rfl,k1,k2,k3⟩:=cz
    injection hx with hx
    subst hx
    exact Um r rfl hN c1 c2 h1 h2 h4 hk k1 (.inl ⟨_,_,_,hp,k2,k3,rfl⟩)
   ·cases hx
  ·rename_i s xs k hp hk
   split at hx
   ·rename_i cz
    obtain⟨rfl,k1⟩:=cz
    split at hx
    ·rename_i el mG
     injection hx with hx
     subst hx
     exact Um r rfl hN c1 c2 h1 h2 h4 hk k1 (.inr ⟨_,_,hp,mG,rfl⟩)
    ·cases hx
   ·cases hx
  ·rename_i n kk ax off s len k hp hk
   split at hx
   ·rename_i s' ys Ms
    split at hx
    ·rename_i cz
     obtain⟨rfl,k1,k2⟩:=cz
     injection hx with hx
     subst hx
     exact abG r rfl hN c1 c2 h1 h2 h4 hk k1 k2 hp Ms
    ·cases hx
   ·cases hx
  ·cases hx
 |ext i mx=>
  cases op<;>simp only[dV] at hc<;>first|cases hc|skip
  simp only[Bool.and_eq_true,beq_iff_eq] at hc
  obtain⟨rfl,c1⟩:=hc
  simp only[aE] at hx
  split at hx
  ·rename_i xs hp
   split at hx
   ·rename_i ag cs dL
    injection hx with hx
    subst hx
    refine abE r rfl hN c1 hp dL fun br=>?_
    subst br
    obtain⟨y1,_⟩:=r.ev c1
    rw[hp] at y1
    obtain⟨vs,_,hl,hv⟩:=y1
    have hi:i<vs.length:=by rw[hl];exact(List.getElem?_eq_some_iff.1 dL).1
    have:cA w G σ.h cs [vs[i]]:=hv i (false,cs) vs[i] dL (List.getElem?_eq_getElem hi)
    exact List.length_eq_one_iff.1 this.1.symm
   ·cases hx
  ·cases hx
 |kj ag off sz mx=>
  cases op<;>simp only[dV] at hc<;>first|cases hc|skip
  simp only[Bool.and_eq_true] at hc
  simp only[aE] at hx
  split at hx
  ·rename_i cs hp
   split at hx
   ·rename_i l hl
    injection hx with hx
    subst hx
    exact abF r rfl hN hc.1 hc.2 hp hl
   ·cases hx
  ·cases hx
 |kE f bD mx=>
  cases op<;>simp only[dV] at hc<;>first|cases hc|skip
  rename_i c
  obtain⟨cal,args,Tk⟩:=c
  simp only at hc
  split at hc
  ·rename_i g x qA
   simp only[Bool.and_eq_true,beq_iff_eq] at hc
   obtain⟨⟨⟨hfg,c1⟩,c2⟩,c3⟩:=hc
   subst hfg
   have ea:args=#[x]:=by apply Array.ext';simpa using qA
   subst ea
   simp only[aE] at hx
   split at hx
   ·rename_i n sz lo len hp
    split at hx
    ·rename_i hs
     injection hx with hx
     subst hx
     exact KC r hN rfl c1 c2 c3 hp (.inl ⟨n,sz,lo,rfl,hs⟩)
    ·cases hx
   ·rename_i sz xs hp
    injection hx with hx
    subst hx
    exact KC r hN rfl c1 c2 c3 hp (.inr (.inl ⟨sz,xs,rfl,rfl⟩))
   ·rename_i sz hp
    injection hx with hx
    subst hx
    exact KC r (len:=0) hN rfl c1 c2 c3 hp (.inr (.inr ⟨sz,rfl,rfl⟩))
   ·cases hx
  ·cases hc
 |len mx=>
  cases op<;>simp only[dV] at hc<;>first|cases hc|skip
  rename_i c
  obtain⟨callee,args,argTypes⟩:=c
  split at hc
  ·rename_i x t bP ha ht
   simp only at bP ha ht
   subst bP
   have qy:args=#[x]:=by apply Array.ext';exact ha
   have xK:argTypes=#[t]:=by apply Array.ext';exact ht
   subst qy xK
   simp only[Bool.and_eq_true] at hc
   obtain⟨c1,c2⟩:=hc
   split at c2
   ·rename_i e hu
    simp only[aE] at hx
    split at hx
    ·rename_i n sz lo len hp
     split at hx
     ·rename_i hn
      injection hx with hx
      subst hx
      exact Gt r rfl hN c1 hu (.inl ⟨_,_,_,hp,hn⟩)
     ·cases hx
    ·rename_i sz xs hp
     injection hx with hx
     subst hx
     exact Gt r rfl hN c1 hu (.inr (.inl ⟨_,_,hp,rfl⟩))
    ·rename_i sz hp
     injection hx with hx
     subst hx
     exact Gt r rfl hN c1 hu (.inr (.inr (.inl ⟨_,hp,rfl⟩)))
    ·rename_i n k ax off sz len hp
     split at hx
     ·rename_i s ys qM
      injection hx with hx
      subst hx
      exact Gt r rfl hN c1 hu (.inr (.inr (.inr ⟨_,_,_,_,_,_,_,_,hp,qM,rfl⟩)))
     ·cases hx
    ·cases hx
   ·cases c2
  ·cases hc
 |append fl sz by_ mx my=>
  cases op<;>simp only[dV] at hc<;>first|cases hc|skip
  rename_i c
  obtain⟨callee,args,argTypes⟩:=c
  split at hc
  ·rename_i x y t t' bP ha ht
   simp only at bP ha ht
   subst bP
   have qy:args=#[x,y]:=by apply Array.ext';exact ha
   have xK:argTypes=#[t,t']:=by apply Array.ext';exact ht
   subst qy xK
   simp only[Bool.and_eq_true,beq_iff_eq] at hc
   obtain⟨⟨⟨rfl,c1⟩,c2⟩,c3⟩:=hc
   obtain⟨e,i,z,h1,h2,h3,h4,h5,h6⟩:=uN c3
   simp only[Bool.and_eq_true,beq_iff_eq,decide_eq_true_eq] at h6
   simp only[aE] at hx
   split at hx
   ·cases hx
   ·rename_i n
    split at hx
    ·cases hx
    ·rename_i xs m σ1 hl
     split at hx
     ·cases hx
     ·rename_i ys m2 σ2 hr
      split at hx
      ·rename_i hb
       split at hx
       ·rename_i gj hi
        injection hx with hx
        subst hx
        exact abm r rfl rfl (hN _ rfl) c1 c2 h1 h2 h3 h4 h5 h6.1.1 h6.1.2 h6.2 hl hr hb hi
       ·cases hx
      ·cases hx
  ·cases hc
 |copy sz mx my=>
  cases op<;>simp only[dV] at hc<;>first|cases hc|skip
  rename_i c
  obtain⟨callee,args,argTypes⟩:=c
  split at hc
  ·rename_i x y t t' bP ha ht
   simp only at bP ha ht
   subst bP
   have qy:args=#[x,y]:=by apply Array.ext';exact ha
   have xK:argTypes=#[t,t']:=by apply Array.ext';exact ht
   subst qy xK
   simp only[Bool.and_eq_true,beq_iff_eq] at hc
   obtain⟨⟨⟨c0,c1⟩,c2⟩,c3⟩:=hc
   obtain⟨e,i,z,h1,h2,h3,h4,h5,_⟩:=uN c3
   simp only[aE] at hx
   split at hx
   ·rename_i n s lo len cc hp hq
    split at hx
    ·rename_i gr m rs xs s' ys hn hv
     split at hx
     ·rename_i cz
      obtain⟨rfl,rfl,rfl,rfl,k1,k2,k3,k4⟩:=cz
      injection hx with hx
      subst hx
      exact abA r rfl hN c1 c2 h1 h2 h4 hp hq hn hv k1 k2 k3 k4
     ·cases hx
    ·cases hx
   ·cases hx
  ·cases hc
 |ki zc mx=>
  cases op<;>simp only[dV] at hc<;>first|cases hc|skip
  rename_i c
  obtain⟨callee,args,argTypes⟩:=c
  split at hc
  ·rename_i x t bP ha ht
   simp only at bP ha ht
   subst bP
   have qy:args=#[x]:=by apply Array.ext';exact ha
   have xK:argTypes=#[t]:=by apply Array.ext';exact ht
   subst qy xK
   simp only[Bool.and_eq_true] at hc
   obtain⟨c1,c3⟩:=hc
   obtain⟨e,i,z,h1,h2,h3,h4,h5,h6⟩:=uN c3
   simp only[aE] at hx
   split at hx
   ·rename_i n s lo len hp
    split at hx
    ·rename_i gr m rs xs hn
     split at hx
     ·rename_i cz
      obtain⟨rfl,rfl,k0,k1,k2,k3⟩:=cz
      injection hx with hx
      subst hx
      exact aby r rfl hN c1 h1 h2 h3 h6 k0 hp hn k1 k2 k3
     ·cases hx
    ·cases hx
   ·cases hx
  ·cases hc
 |mm b mx my=>
  cases op<;>simp only[dV] at hc<;>first|cases hc|skip
  rename_i c
  obtain⟨callee,args,argTypes⟩:=c
  have cu:∀x y,callee=.builtin (if b=true then .max else .min)->args=#[x,y]->bw x mx=true->bw y my=true->
    Oper.wp P ⟨dst,.call ⟨callee,args,argTypes⟩,ty,pos,after,guard⟩ a w (Nx B E w0 N σ') Q:=by
   intro x y bP ha c1 c2
   subst bP ha
   simp only[aE] at hx
   split at hx
   ·rename_i k n k' m h1 h2
    have:=abK (P:=P) (Q:=Q) (mx':=b) r (o:=⟨dst,.call ⟨.builtin (if b=true then .max else .min),#[x,y],argTypes⟩,ty,pos,after,guard⟩) rfl hN c1 c2 h1 h2
    cases b
    ·simp at hx this
     split at hx<;>(rename_i bL;injection hx with hx;subst hx;simpa[bL] using this)
    ·simp at hx this
     split at hx<;>(rename_i bL;injection hx with hx;subst hx;simpa[bL] using this)
   ·cases hx
  split at hc
  ·rename_i x y bP ha
   simp only[Bool.and_eq_true] at hc
   obtain⟨⟨rfl,c1⟩,c2⟩:=hc
   exact cu x y bP (by apply Array.ext';exact ha) c1 c2
  ·rename_i x y bP ha
   simp only[Bool.and_eq_true,Bool.not_eq_true'] at hc
   obtain⟨⟨rfl,c1⟩,c2⟩:=hc
   exact cu x y bP (by apply Array.ext';exact ha) c1 c2
  ·cases hc
 |call m f ms=>
  cases op<;>simp only[dV] at hc<;>first|cases hc|skip
  rename_i c
  obtain⟨callee,args,argTypes⟩:=c
  split at hc
  ·rename_i g bP
   simp only at bP
   subst bP
   simp only[Bool.and_eq_true,beq_iff_eq] at hc
   obtain⟨⟨rfl,c1⟩,c2⟩:=hc
   exact abt r hT hN rfl c1 c2 hx
  ·cases hc
 |lG f ms=>
  cases op<;>simp only[dV] at hc<;>first|cases hc|skip
  rename_i c
  obtain⟨callee,args,argTypes⟩:=c
  split at hc
  ·rename_i g bP
   simp only at bP
   subst bP
   simp only[Bool.and_eq_true,beq_iff_eq] at hc
   obtain⟨⟨rfl,c1⟩,c2⟩:=hc
   simp only[aE] at hx
   split at hx
   ·rename_i z hz
    injection hx with hx
    subst hx
    exact abv r hT hN rfl c1 c2 hz
   ·cases hx
  ·cases hc
 |fT m f ms=>
  cases op<;>simp only[dV] at hc<;>first|cases hc|skip
  rename_i c
  obtain⟨callee,args,argTypes⟩:=c
  split at hc
  ·rename_i g bP
   simp only at bP
   subst bP
   simp only[Bool.and_eq_true,beq_iff_eq] at hc
   obtain⟨⟨rfl,c1⟩,c2⟩:=hc
   simp only[aE] at hx
   exact abw r hTM hN rfl c1 c2 hx
  ·cases hc
 |dn f ms=>
  cases op<;>simp only[dV] at hc<;>first|cases hc|skip
  rename_i c
  obtain⟨callee,args,argTypes⟩:=c
  split at hc
  ·rename_i g bP
   simp only at bP
   subst bP
   simp only[Bool.and_eq_true,beq_iff_eq] at hc
   obtain⟨⟨rfl,c1⟩,c2⟩:=hc
   simp only[aE] at hx
   exact abu r hTV hN rfl c1 c2 hx
  ·cases hc
 |oA f ms=>
  cases op<;>simp only[dV] at hc<;>first|cases hc|skip
  rename_i fn first xs
  cases fn<;>simp only at hc<;>first|cases hc|skip
  simp only[Bool.and_eq_true,beq_iff_eq] at hc
  obtain⟨⟨⟨rfl,c0⟩,c1⟩,c2⟩:=hc
  have hf0:first=#[]:=by simpa using c0
  subst hf0
  obtain⟨g1,g2⟩:=Kd c2
  simp only[aE] at hx
  split at hx
  ·rename_i cs dL
   split at hx
   ·rename_i hj
    injection hx with hx
    subst hx
    exact abI r rfl hN ⟨by simpa using g1.symm,g2⟩ dL (fun c hc fJ=>by
     have:=List.all_eq_true.1 hj c hc
     subst fJ
     simp[ai.DC] at this)
   ·cases hx
  ·cases hx
 |lH m mx ms=>
  cases op<;>simp only[dV] at hc<;>first|cases hc|skip
  rename_i c
  obtain⟨callee,args,argTypes⟩:=c
  split at hc
  ·rename_i t bP
   simp only at bP
   subst bP
   simp only[Bool.and_eq_true] at hc
   simp only[aE] at hx
   split at hx
   ·rename_i f bY hp
    have hfk:cg P f=true:=by
     have eT:=hx
     unfold qm at eT
     split at eT
     ·split at eT
      ·rename_i M hM;exact hF f M hM
      ·cases eT
     ·cases eT
    exact abx r hT hN rfl hfk hc.1 hc.2 hp hx
   ·cases hx
  ·cases hc
end
end Go.Am
