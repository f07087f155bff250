/- Am17: is an operation of the program what the abstract one says? No condition. -/
import Derived.Test.YtifmggmhdcdgbaaAmR
import Derived.Test.YtifmggmhdcdgbaaAmV
set_option linter.unusedVariables false
set_option linter.unusedSimpArgs false
namespace Go.Am
def Ac:Option Operand->Option MO->Bool
 |none,none=>true
 |some x,some m=>bw x m
 |_,_=>false
def sf (P:Program) (t:TypeId) (sz:Nat) (k:TypeInfo->Value->Bool):Bool:=
 match P.underlying t with
 |some (.slice e)=>match P.info? e with
  |some i=>match i.zero with
   |some z=>i.size==sz&&decide (0<sz)&&k i z
   |none=>false
  |none=>false
 |_=>false
theorem vU {P:Program} {t:TypeId} {sz:Nat} {k:TypeInfo->Value->Bool} (h:sf P t sz k=true):
  ∃e i z,P.underlying t=some (.slice e)/\P.info? e=some i/\i.zero=some z/\i.size=sz/\0<sz/\k i z=true:=by
 unfold sf at h
 split at h
 ·rename_i e he
  split at h
  ·rename_i i hi
   split at h
   ·rename_i z hz
    simp only[Bool.and_eq_true,beq_iff_eq,decide_eq_true_eq] at h
    exact⟨e,i,z,he,hi,hz,h.1.1,h.1.2,h.2⟩
   ·cases h
  ·cases h
 ·cases h
def HN (P:Program) (t:TypeId) (zs:List ai):Bool:=
 match P.info? t with
 |some i=>match i.zero with
  |some z=>se z.cells.toList zs
  |none=>false
 |none=>false
theorem V8 {P:Program} {t:TypeId} {zs:List ai} (h:HN P t zs=true):∃i z,P.info? t=some i/\i.zero=some z/\se z.cells.toList zs=true:=by
 unfold HN at h
 split at h
 ·rename_i i hi
  split at h
  ·rename_i z hz;exact⟨i,z,hi,hz,h⟩
  ·cases h
 ·cases h
def V2 (P:Program) (t:TypeId) (parts:List (Nat×Operand)) (zs:List ai) (ms:List (Nat×Nat×MO)):Bool:=
 match P.underlying t with
 |some (.struct nH)=>match nH.toList.mapM (fun f=>(P.info? f.type).map fun i=>(f.offset,i.size)) with
  |some places=>HN P t zs&&x5 places parts ms
  |none=>false
 |_=>false
def V7 (P:Program) (t:TypeId) (sz:Nat):Bool:=
 match P.info? t with
 |some i=>i.size==sz&&decide (0<sz)
 |none=>false
def V4 (P:Program) (t u:TypeId) (k:IntKind):Bool:=
 match P.underlying t,P.underlying u with
 |some _,some (.int k')=>k==k'
 |_,_=>false
def Zh (P:Program) (t:TypeId):Bool:=
 match P.underlying t with
 |some .bool=>true
 |_=>false
def d9 (P:Program) (o:Oper) (mo:aC):Bool:=
 match mo,o.op with
 |.mv m,.move x=>bw x m
 |.mv m,.assign x=>bw x m
 |.pick c x y,.pick c' x' y'=>bw c' c&&bw x' x&&bw y' y
 |.alloc zs,.alloc e=>HN P e zs
 |.box sz m,.box e x=>bw x m
 |.build zs ms,.build t parts=>V2 P t parts.toList zs ms
 |.dM sz ms,.buildSlice t len parts=>sf P t sz (fun _ _=>true)&&(ms.length==len)&&decide (parts.toList.map (·.1)=List.range len)&&decide (len*sz<=16777216)&&h9 (parts.toList.map (·.2)) ms
 |.load ag sz m,.load t x=>bw x m&&pu P t ag sz
 |.mw ag sz m,.load t x=>bw x m&&pu P t ag sz
 |.store sz mx my,.store t x y=>o.dst.isNone&&bw x mx&&bw y my&&V7 P t sz
 |.gv m,.nilCheck x=>bw x m
 |.bin op mx my,.binOp w7 t x y t'=>decide (op=w7)&&bw x mx&&bw y my
 |.nB op mx my,.binOp w7 t x y t'=>decide (op=w7)&&bw x mx&&bw y my&&Zh P t
 |.un op mx,.unOp w7 t x=>decide (op=w7)&&bw x mx
 |.conv k mx,.convert t u x=>bw x mx&&V4 P t u k
 |.nb m sz by_ zs ml mc,.makeSlice t l c=>bw l ml&&bw c mc&&sf P t sz (fun i z=>(i.bytes==by_)&&decide (0<by_)&&ub z.cells.toList zs)
 |.slice sz mx Kc Ka,.slice t x lo hi none=>bw x mx&&Ac lo Kc&&Ac hi Ka&&sf P t sz (fun _ _=>true)
 |.tail sz mx ml,.slice t x (some y) none none=>bw x mx&&bw y ml&&sf P t sz (fun _ _=>true)
 |.aq off mx,.fieldAddr s x f=>bw x mx&&HK P s f off
 |.bY sz mx mi,.indexAddr t x i=>bw x mx&&bw i mi&&sf P t sz (fun _ _=>true)
 |.ext i mx,.extract x j=>(i==j)&&bw x mx
 |.lp ag off sz mx,.field s x f=>bw x mx&&Mo P s f off ag sz
 |.lO f bE mx,.call c=>match c.callee,c.args.toList with
  |.value (.func g),[x]=>(f==g)&&bM P f&&HM P f bE&&bw x mx
  |_,_=>false
 |.len mx,.call c=>match c.callee,c.args.toList,c.argTypes.toList with
  |.builtin .len,[x],[t]=>bw x mx&&(match P.underlying t with|some (.slice _)=>true|_=>false)
  |_,_,_=>false
 |.append fl sz by_ mx my,.call c=>match c.callee,c.args.toList,c.argTypes.toList with
  |.builtin .append,[x,y],[t,t']=>(t==t')&&bw x mx&&bw y my&&sf P t sz (fun i z=>(i.bytes==by_)&&decide (0<by_)&&(z.cells.size==sz))
  |_,_,_=>false
 |.copy sz mx my,.call c=>match c.callee,c.args.toList,c.argTypes.toList with
  |.builtin .copy,[x,y],[t,t']=>(sz==1)&&bw x mx&&bw y my&&sf P t 1 (fun _ _=>true)
  |_,_,_=>false
 |.kt zc mx,.call c=>match c.callee,c.args.toList,c.argTypes.toList with
  |.builtin .clear,[x],[t]=>bw x mx&&sf P t 1 (fun _ z=>ub z.cells.toList [zc])
  |_,_,_=>false
 |.mm b mx my,.call c=>match c.callee,c.args.toList with
  |.builtin .max,[x,y]=>b&&bw x mx&&bw y my
  |.builtin .min,[x,y]=> !b&&bw x mx&&bw y my
  |_,_=>false
 |.call m f ms,.call c=>match c.callee with
  |.value (.func g)=>(f==g)&&bM P f&&h9 c.args.toList ms
  |_=>false
 |.lS f ms,.call c=>match c.callee with
  |.value (.func g)=>(f==g)&&bM P f&&h9 c.args.toList ms
  |_=>false
 |.gI m f ms,.call c=>match c.callee with
  |.value (.func g)=>(f==g)&&bM P f&&h9 c.args.toList ms
  |_=>false
 |.dC f ms,.call c=>match c.callee with
  |.value (.func g)=>(f==g)&&bM P f&&h9 c.args.toList ms
  |_=>false
 |.oV f ms,.makeFunc (.func g) first xs=>(f==g)&&first.isEmpty&&bM P f&&h9 xs.toList ms
 |.lT m mx ms,.call c=>match c.callee with
  |.value (.tmp t)=>bw (.tmp t) mx&&h9 c.args.toList ms
  |_=>false
 |_,_=>false
theorem Mp:∀{xs:List Operand} {ms:List MO},h9 xs ms=true->xs.length=ms.length/\∀(j:Nat) (x:Operand) (m:MO),xs[j]? =some x->ms[j]? =some m->bw x m=true
 |[],[],_=>⟨rfl,by simp⟩
 |x::xs,m::ms,hc=>by
  simp only[h9,Bool.and_eq_true] at hc
  obtain⟨i1,i2⟩:=Mp hc.2
  refine⟨by simp[i1],fun j x' m' hj hm=>?_⟩
  cases j with
  |zero=>simp at hj hm;subst hj;subst hm;exact hc.1
  |succ j=>exact i2 j x' m' (by simpa using hj) (by simpa using hm)
 |[],_::_,hc=>by simp[h9] at hc
 |_::_,[],hc=>by simp[h9] at hc
section
variable {B:Nat} {E:Ex} {w0 w w':World} {G G':Gh} {h h':Nat->Option ar} {used used':Nat->Bool} {tk:List PC} {N:Nat}
variable {P:Program} {o:Oper} {a:Act} {σ σ':St} {Q:Exit->Act->World->Prop}
theorem WX (r:R B E w0 N σ a w G) {T:bj} (hT:xV P T) (hTM:Gt P T) (hTV:Gu P T) (hF:∀f M,bj.find T.pure f=some M->bM P f=true) {mo:aC} (hN:∀n,o.dst=some n->n<N) (hc:d9 P o mo=true) (hx:aG T o.dst mo σ=some σ'):
  o.wp P a w (Nx B E w0 N σ') Q:=by
 obtain⟨dst,op,ty,pos,after,guard⟩:=o
 cases mo with
 |mv m=>
  simp only[aG] at hx
  injection hx with hx
  subst hx
  cases op<;>simp only[d9] at hc<;>first|cases hc|skip
  ·exact WV r (.inl rfl) hN hc
  ·exact WV r (.inr rfl) hN hc
 |pick c x y=>
  cases op<;>simp only[d9] at hc<;>first|cases hc|skip
  rename_i c' x' y'
  simp only[Bool.and_eq_true] at hc
  simp only[aG] at hx
  split at hx
  ·rename_i b hb
   have:=aep (P:=P) (Q:=Q) r (o:=⟨dst,.pick c' x' y',ty,pos,after,guard⟩) rfl hN hc.1.1 hc.1.2 hc.2 hb
   cases b<;>simp at hx<;>subst hx<;>exact this
  ·cases hx
 |alloc zs=>
  cases op<;>simp only[d9] at hc<;>first|cases hc|skip
  obtain⟨i,z,h1,h2,h3⟩:=V8 hc
  simp only[aG] at hx
  split at hx
  ·rename_i n
   split at hx
   ·rename_i σ1 hi
    injection hx with hx
    subst hx
    exact ad0 r rfl rfl (hN n rfl) h1 h2 h3 hi
   ·cases hx
  ·cases hx
 |box sz m=>
  cases op<;>simp only[d9] at hc<;>first|cases hc|skip
  simp only[aG] at hx
  split at hx
  ·rename_i n ag cs dP
   split at hx
   ·split at hx
    ·rename_i σ1 hi
     injection hx with hx
     subst hx
     exact ad4 r rfl rfl (hN _ rfl) hc dP hi
    ·cases hx
   ·cases hx
  ·cases hx
 |build zs ms=>
  cases op<;>simp only[d9] at hc<;>first|cases hc|skip
  simp only[aG] at hx
  split at hx
  ·rename_i cs dP
   injection hx with hx
   subst hx
   unfold V2 at hc
   split at hc
   ·rename_i nH hu
    split at hc
    ·rename_i places fY
     simp only[Bool.and_eq_true] at hc
     obtain⟨i,z,h1,h2,h3⟩:=V8 hc.1
     exact ad6 r rfl hN h1 h2 hu fY h3 hc.2 dP
    ·cases hc
   ·cases hc
  ·cases hx
 |dM sz ms=>
  cases op<;>simp only[d9] at hc<;>first|cases hc|skip
  simp only[Bool.and_eq_true,beq_iff_eq,decide_eq_true_eq] at hc
  obtain⟨⟨⟨⟨c1,c2⟩,c3⟩,c4⟩,c5⟩:=hc
  obtain⟨e,i,z,h1,h2,h3,h4,h5,_⟩:=vU c1
  simp only[aG] at hx
  split at hx
  ·rename_i n es ow σ1 AS
   split at hx
   ·rename_i σ2 hi
    injection hx with hx
    subst hx
    refine ad5 r rfl rfl (hN _ rfl) h1 h2 h3 h4 h5 c2 c3 c4 (fun j p m hp hm=>?_) AS hi
    exact(Mp c5).2 j p.2 m (by simp[hp]) hm
   ·cases hx
  ·cases hx
 |load ag sz m=>
  cases op<;>simp only[d9] at hc<;>first|cases hc|skip
  simp only[Bool.and_eq_true] at hc
  simp only[aG] at hx
  split at hx
  ·rename_i p hp
   split at hx
   ·rename_i cs dP
    injection hx with hx
    subst hx
    exact WU r rfl hN hc.1 hc.2 hp dP
   ·cases hx
  ·cases hx
 |mw ag sz m=>
  cases op<;>simp only[d9] at hc<;>first|cases hc|skip
  simp only[Bool.and_eq_true] at hc
  simp only[aG] at hx
  split at hx
  ·rename_i p hp
   split at hx
   ·rename_i σ1 hf
    split at hx
    ·rename_i cs dP
     injection hx with hx
     subst hx
     exact ael r rfl hN hc.1 hc.2 hp hf dP
    ·cases hx
   ·cases hx
  ·cases hx
 |store sz mx my=>
  cases op<;>simp only[d9] at hc<;>first|cases hc|skip
  simp only[Bool.and_eq_true] at hc
  obtain⟨⟨⟨c0,c1⟩,c2⟩,c3⟩:=hc
  have hd:dst=none:=by simpa using c0
  unfold V7 at c3
  split at c3
  ·rename_i i hi
   simp only[Bool.and_eq_true,beq_iff_eq,decide_eq_true_eq] at c3
   simp only[aG] at hx
   split at hx
   ·rename_i n k az off ag vs hp hv
    split at hx
    ·rename_i hl
     split at hx
     ·rename_i cs hn
      split at hx
      ·rename_i hk
       injection hx with hx
       subst hx
       exact aeq r rfl hd c1 c2 hi c3.1 c3.2 hp hv hl hn hk.1 hk.2
      ·cases hx
     ·rename_i gr m rs xs hn
      split at hx
      ·rename_i rp
       subst rp
       split at hx
       ·rename_i el mN
        exact aes r rfl hd c1 c2 hi c3.1 c3.2 hp hv hl hn mN hx
       ·cases hx
      ·cases hx
     ·cases hx
    ·cases hx
   ·rename_i n k az off s i ag vs hp hv
    split at hx
    ·rename_i hl
     split at hx
     ·rename_i gr rs xs hn
      split at hx
      ·rename_i rp
       subst rp
       split at hx
       ·rename_i av mQ
        injection hx with hx
        subst hx
        exact aer r rfl hd c1 c2 hi c3.1 c3.2 hp hv hl hn mQ
       ·cases hx
      ·cases hx
     ·cases hx
    ·cases hx
   ·cases hx
  ·cases c3
 |gv m=>
  cases op<;>simp only[d9] at hc<;>first|cases hc|skip
  simp only[aG] at hx
  split at hx
  ·rename_i n k sz off hp
   split at hx
   ·rename_i hn
    injection hx with hx
    subst hx
    rw[<-hp]
    exact WW r rfl hN hc (.inl ⟨_,_,_,_,hp,hn⟩)
   ·cases hx
  ·rename_i xs off hp
   injection hx with hx
   subst hx
   rw[<-hp]
   exact WW r rfl hN hc (.inr ⟨_,_,hp⟩)
  ·cases hx
 |bin w7 mx my=>
  cases op<;>simp only[d9] at hc<;>first|cases hc|skip
  simp only[Bool.and_eq_true,decide_eq_true_eq] at hc
  obtain⟨⟨rfl,c1⟩,c2⟩:=hc
  simp only[aG] at hx
  split at hx
  ·rename_i c hb
   injection hx with hx
   subst hx
   exact ad2 r rfl hN c1 c2 hb
  ·cases hx
 |nB w7 mx my=>
  cases op<;>simp only[d9] at hc<;>first|cases hc|skip
  simp only[Bool.and_eq_true,decide_eq_true_eq] at hc
  obtain⟨⟨⟨rfl,c1⟩,c2⟩,c3⟩:=hc
  unfold Zh at c3
  split at c3
  ·rename_i ht
   simp only[aG] at hx
   split at hx
   ·rename_i c hb
    injection hx with hx
    subst hx
    exact ad3 r rfl hN c1 c2 ht hb
   ·cases hx
  ·cases c3
 |un w7 mx=>
  cases op<;>simp only[d9] at hc<;>first|cases hc|skip
  simp only[Bool.and_eq_true,decide_eq_true_eq] at hc
  obtain⟨rfl,c1⟩:=hc
  simp only[aG] at hx
  split at hx
  ·rename_i c hb
   injection hx with hx
   subst hx
   exact aeu r rfl hN c1 hb
  ·cases hx
 |conv k mx=>
  cases op<;>simp only[d9] at hc<;>first|cases hc|skip
  simp only[Bool.and_eq_true] at hc
  obtain⟨c1,c2⟩:=hc
  unfold V4 at c2
  split at c2
  ·rename_i d k' ht hu
   have hk:k=k':=by simpa using c2
   subst hk
   simp only[aG] at hx
   split at hx
   ·rename_i k2 n hb
    injection hx with hx
    subst hx
    exact aed r rfl hN c1 ht hu hb
   ·cases hx
  ·cases c2
 |nb m sz by_ zs ml mc=>
  cases op<;>simp only[d9] at hc<;>first|cases hc|skip
  simp only[Bool.and_eq_true] at hc
  obtain⟨⟨c1,c2⟩,c3⟩:=hc
  obtain⟨e,i,z,h1,h2,h3,h4,h5,h6⟩:=vU c3
  simp only[Bool.and_eq_true,beq_iff_eq,decide_eq_true_eq] at h6
  simp only[aG] at hx
  split at hx
  ·rename_i n q q' hq dQ
   split at hx
   ·rename_i cu
    obtain⟨k1,k2,k3,k4⟩:=cu
    split at hx
    ·rename_i σ1 hi
     injection hx with hx
     subst hx
     exact aen r rfl rfl (hN _ rfl) c1 c2 h1 h2 h3 h4 h6.1.1 h6.1.2 h5 h6.2 hq dQ k1 k2 k3 k4 hi
    ·cases hx
   ·cases hx
  ·cases hx
 |slice sz mx Kc Ka=>
  cases op<;>simp only[d9] at hc<;>first|cases hc|skip
  rename_i t x lo hi mm
  cases mm<;>simp only[d9] at hc<;>first|cases hc|skip
  simp only[Bool.and_eq_true] at hc
  obtain⟨⟨⟨c1,c2⟩,c3⟩,c4⟩:=hc
  obtain⟨e,i,z,h1,h2,h3,h4,h5,_⟩:=vU c4
  have wv:∀l,(match Kc with|none=>some 0|some l=>(σ.ev l).cY)=some l->(lo=none/\l=0)\/∃y my,lo=some y/\bw y my=true/\(σ.ev my).cY=some l:=by
   intro l hl
   cases Kc with
   |none=>cases lo<;>simp[Ac] at c2;simp at hl;exact .inl ⟨rfl,hl.symm⟩
   |some my=>cases lo<;>simp[Ac] at c2;exact .inr ⟨_,my,rfl,c2,hl⟩
  have uz:∀(len:Nat) hh,(match Ka with|none=>some (len:Int)|some h=>(σ.ev h).cY)=some hh->(hi=none/\hh=len)\/∃y my,hi=some y/\bw y my=true/\(σ.ev my).cY=some hh:=by
   intro len l hl
   cases Ka with
   |none=>cases hi<;>simp[Ac] at c3;simp at hl;exact .inl ⟨rfl,hl.symm⟩
   |some my=>cases hi<;>simp[Ac] at c3;exact .inr ⟨_,my,rfl,c3,hl⟩
  simp only[aG] at hx
  split at hx
  ·rename_i n s l0 len l hp hl
   split at hx
   ·rename_i hh Oj
    split at hx
    ·rename_i cu
     obtain⟨rfl,k1,k2,k3,k4⟩:=cu
     injection hx with hx
     subst hx
     exact WY r rfl hN c1 h1 h2 h4 h5 (wv l hl) (uz len hh Oj) k1 k2 k3 (.inl ⟨n,l0,hp,k4,rfl⟩)
    ·cases hx
   ·cases hx
  ·rename_i s xs l hp hl
   split at hx
   ·rename_i hh Oj
    split at hx
    ·rename_i cu
     obtain⟨rfl,k1,k2,k3⟩:=cu
     injection hx with hx
     subst hx
     exact WY r rfl hN c1 h1 h2 h4 h5 (wv l hl) (uz xs.length hh Oj) k1 k2 k3 (.inr ⟨xs,hp,rfl,rfl⟩)
    ·cases hx
   ·cases hx
  ·cases hx
 |tail sz mx ml=>
  cases op<;>simp only[d9] at hc<;>first|cases hc|skip
  rename_i t x lo hi mm
  cases mm<;>cases hi<;>cases lo<;>simp only[d9] at hc<;>first|cases hc|skip
  rename_i y
  simp only[Bool.and_eq_true] at hc
  obtain⟨⟨c1,c2⟩,c4⟩:=hc
  obtain⟨e,i,z,h1,h2,h3,h4,h5,_⟩:=vU c4
  simp only[aG] at hx
  split at hx
  ·rename_i n a0 s len l hp hl
   split at hx
   ·rename_i m rs xs hn
    split at hx
    ·rename_i cu
     obtain⟨rfl,rfl,rfl,k1,k2⟩:=cu
     split at hx
     ·rename_i σ1 e1
      injection hx with hx
      subst hx
      exact aet r rfl rfl (hN _ rfl) c1 c2 h1 h2 h4 h5 hp hl k1 k2 hn e1
     ·cases hx
    ·cases hx
   ·cases hx
  ·cases hx
 |aq off mx=>
  cases op<;>simp only[d9] at hc<;>first|cases hc|skip
  simp only[Bool.and_eq_true] at hc
  simp only[aG] at hx
  split at hx
  ·rename_i n k sz q hp
   split at hx
   ·rename_i hn
    injection hx with hx
    subst hx
    exact WS r rfl hN hc.1 hc.2 (.inl ⟨_,_,_,_,hp,hn,rfl⟩)
   ·cases hx
  ·rename_i xs q hp
   injection hx with hx
   subst hx
   exact WS r rfl hN hc.1 hc.2 (.inr ⟨_,_,hp,rfl⟩)
  ·cases hx
 |bY sz mx mi=>
  cases op<;>simp only[d9] at hc<;>first|cases hc|skip
  simp only[Bool.and_eq_true] at hc
  obtain⟨⟨c1,c2⟩,c3⟩:=hc
  obtain⟨e,i,z,h1,h2,h3,h4,h5,_⟩:=vU c3
  simp only[aG] at hx
  split at hx
  ·rename_i n s lo len k hp hk
   split at hx
   ·rename_i cu
    obtain⟨rfl,k1,k2,k3⟩:=cu
    injection hx with hx
    subst hx
    exact WT r rfl hN c1 c2 h1 h2 h4 hk k1 (.inl ⟨_,_,_,hp,k2,k3,rfl⟩)
   ·cases hx
  ·rename_i s xs k hp hk
   split at hx
   ·rename_i cu
    obtain⟨rfl,k1⟩:=cu
    split at hx
    ·rename_i el mN
     injection hx with hx
     subst hx
     exact WT r rfl hN c1 c2 h1 h2 h4 hk k1 (.inr ⟨_,_,hp,mN,rfl⟩)
    ·cases hx
   ·cases hx
  ·rename_i n kk az off s len k hp hk
   split at hx
   ·rename_i s' ys OY
    split at hx
    ·rename_i cu
     obtain⟨rfl,k1,k2⟩:=cu
     injection hx with hx
     subst hx
     exact aek r rfl hN c1 c2 h1 h2 h4 hk k1 k2 hp OY
    ·cases hx
   ·cases hx
  ·cases hx
 |ext i mx=>
  cases op<;>simp only[d9] at hc<;>first|cases hc|skip
  simp only[Bool.and_eq_true,beq_iff_eq] at hc
  obtain⟨rfl,c1⟩:=hc
  simp only[aG] at hx
  split at hx
  ·rename_i xs hp
   split at hx
   ·rename_i ag cs dP
    injection hx with hx
    subst hx
    refine aei r rfl hN c1 hp dP fun br=>?_
    subst br
    obtain⟨y1,_⟩:=r.ev c1
    rw[hp] at y1
    obtain⟨vs,_,hl,hv⟩:=y1
    have hi:i<vs.length:=by rw[hl];exact(List.getElem?_eq_some_iff.1 dP).1
    have:cA w G σ.h cs [vs[i]]:=hv i (false,cs) vs[i] dP (List.getElem?_eq_getElem hi)
    exact List.length_eq_one_iff.1 this.1.symm
   ·cases hx
  ·cases hx
 |lp ag off sz mx=>
  cases op<;>simp only[d9] at hc<;>first|cases hc|skip
  simp only[Bool.and_eq_true] at hc
  simp only[aG] at hx
  split at hx
  ·rename_i cs hp
   split at hx
   ·rename_i l hl
    injection hx with hx
    subst hx
    exact aej r rfl hN hc.1 hc.2 hp hl
   ·cases hx
  ·cases hx
 |lO f bE mx=>
  cases op<;>simp only[d9] at hc<;>first|cases hc|skip
  rename_i c
  obtain⟨cal,args,VO⟩:=c
  simp only at hc
  split at hc
  ·rename_i g x re
   simp only[Bool.and_eq_true,beq_iff_eq] at hc
   obtain⟨⟨⟨hfg,c1⟩,c2⟩,c3⟩:=hc
   subst hfg
   have ea:args=#[x]:=by apply Array.ext';simpa using re
   subst ea
   simp only[aG] at hx
   split at hx
   ·rename_i n sz lo len hp
    split at hx
    ·rename_i hs
     injection hx with hx
     subst hx
     exact MU r hN rfl c1 c2 c3 hp (.inl ⟨n,sz,lo,rfl,hs⟩)
    ·cases hx
   ·rename_i sz xs hp
    injection hx with hx
    subst hx
    exact MU r hN rfl c1 c2 c3 hp (.inr (.inl ⟨sz,xs,rfl,rfl⟩))
   ·rename_i sz hp
    injection hx with hx
    subst hx
    exact MU r (len:=0) hN rfl c1 c2 c3 hp (.inr (.inr ⟨sz,rfl,rfl⟩))
   ·cases hx
  ·cases hc
 |len mx=>
  cases op<;>simp only[d9] at hc<;>first|cases hc|skip
  rename_i c
  obtain⟨callee,args,argTypes⟩:=c
  split at hc
  ·rename_i x t bN ha ht
   simp only at bN ha ht
   subst bN
   have rb:args=#[x]:=by apply Array.ext';exact ha
   have yO:argTypes=#[t]:=by apply Array.ext';exact ht
   subst rb yO
   simp only[Bool.and_eq_true] at hc
   obtain⟨c1,c2⟩:=hc
   split at c2
   ·rename_i e hu
    simp only[aG] at hx
    split at hx
    ·rename_i n sz lo len hp
     split at hx
     ·rename_i hn
      injection hx with hx
      subst hx
      exact Ib r rfl hN c1 hu (.inl ⟨_,_,_,hp,hn⟩)
     ·cases hx
    ·rename_i sz xs hp
     injection hx with hx
     subst hx
     exact Ib r rfl hN c1 hu (.inr (.inl ⟨_,_,hp,rfl⟩))
    ·rename_i sz hp
     injection hx with hx
     subst hx
     exact Ib r rfl hN c1 hu (.inr (.inr (.inl ⟨_,hp,rfl⟩)))
    ·rename_i n k az off sz len hp
     split at hx
     ·rename_i s ys rr
      injection hx with hx
      subst hx
      exact Ib r rfl hN c1 hu (.inr (.inr (.inr ⟨_,_,_,_,_,_,_,_,hp,rr,rfl⟩)))
     ·cases hx
    ·cases hx
   ·cases c2
  ·cases hc
 |append fl sz by_ mx my=>
  cases op<;>simp only[d9] at hc<;>first|cases hc|skip
  rename_i c
  obtain⟨callee,args,argTypes⟩:=c
  split at hc
  ·rename_i x y t t' bN ha ht
   simp only at bN ha ht
   subst bN
   have rb:args=#[x,y]:=by apply Array.ext';exact ha
   have yO:argTypes=#[t,t']:=by apply Array.ext';exact ht
   subst rb yO
   simp only[Bool.and_eq_true,beq_iff_eq] at hc
   obtain⟨⟨⟨rfl,c1⟩,c2⟩,c3⟩:=hc
   obtain⟨e,i,z,h1,h2,h3,h4,h5,h6⟩:=vU c3
   simp only[Bool.and_eq_true,beq_iff_eq,decide_eq_true_eq] at h6
   simp only[aG] at hx
   split at hx
   ·cases hx
   ·rename_i n
    split at hx
    ·cases hx
    ·rename_i xs m σ1 hl
     split at hx
     ·cases hx
     ·rename_i ys m2 σ2 hr
      split at hx
      ·rename_i hb
       split at hx
       ·rename_i gz hi
        injection hx with hx
        subst hx
        exact ad1 r rfl rfl (hN _ rfl) c1 c2 h1 h2 h3 h4 h5 h6.1.1 h6.1.2 h6.2 hl hr hb hi
       ·cases hx
      ·cases hx
  ·cases hc
 |copy sz mx my=>
  cases op<;>simp only[d9] at hc<;>first|cases hc|skip
  rename_i c
  obtain⟨callee,args,argTypes⟩:=c
  split at hc
  ·rename_i x y t t' bN ha ht
   simp only at bN ha ht
   subst bN
   have rb:args=#[x,y]:=by apply Array.ext';exact ha
   have yO:argTypes=#[t,t']:=by apply Array.ext';exact ht
   subst rb yO
   simp only[Bool.and_eq_true,beq_iff_eq] at hc
   obtain⟨⟨⟨c0,c1⟩,c2⟩,c3⟩:=hc
   obtain⟨e,i,z,h1,h2,h3,h4,h5,_⟩:=vU c3
   simp only[aG] at hx
   split at hx
   ·rename_i n s lo len cc hp hq
    split at hx
    ·rename_i gr m rs xs s' ys hn hv
     split at hx
     ·rename_i cu
      obtain⟨rfl,rfl,rfl,rfl,k1,k2,k3,k4⟩:=cu
      injection hx with hx
      subst hx
      exact aee r rfl hN c1 c2 h1 h2 h4 hp hq hn hv k1 k2 k3 k4
     ·cases hx
    ·cases hx
   ·cases hx
  ·cases hc
 |kt zc mx=>
  cases op<;>simp only[d9] at hc<;>first|cases hc|skip
  rename_i c
  obtain⟨callee,args,argTypes⟩:=c
  split at hc
  ·rename_i x t bN ha ht
   simp only at bN ha ht
   subst bN
   have rb:args=#[x]:=by apply Array.ext';exact ha
   have yO:argTypes=#[t]:=by apply Array.ext';exact ht
   subst rb yO
   simp only[Bool.and_eq_true] at hc
   obtain⟨c1,c3⟩:=hc
   obtain⟨e,i,z,h1,h2,h3,h4,h5,h6⟩:=vU c3
   simp only[aG] at hx
   split at hx
   ·rename_i n s lo len hp
    split at hx
    ·rename_i gr m rs xs hn
     split at hx
     ·rename_i cu
      obtain⟨rfl,rfl,k0,k1,k2,k3⟩:=cu
      injection hx with hx
      subst hx
      exact aec r rfl hN c1 h1 h2 h3 h6 k0 hp hn k1 k2 k3
     ·cases hx
    ·cases hx
   ·cases hx
  ·cases hc
 |mm b mx my=>
  cases op<;>simp only[d9] at hc<;>first|cases hc|skip
  rename_i c
  obtain⟨callee,args,argTypes⟩:=c
  have cr:∀x y,callee=.builtin (if b=true then .max else .min)->args=#[x,y]->bw x mx=true->bw y my=true->
    Oper.wp P ⟨dst,.call ⟨callee,args,argTypes⟩,ty,pos,after,guard⟩ a w (Nx B E w0 N σ') Q:=by
   intro x y bN ha c1 c2
   subst bN ha
   simp only[aG] at hx
   split at hx
   ·rename_i k n k' m h1 h2
    have:=aeo (P:=P) (Q:=Q) (mx':=b) r (o:=⟨dst,.call ⟨.builtin (if b=true then .max else .min),#[x,y],argTypes⟩,ty,pos,after,guard⟩) rfl hN c1 c2 h1 h2
    cases b
    ·simp at hx this
     split at hx<;>(rename_i bH;injection hx with hx;subst hx;simpa[bH] using this)
    ·simp at hx this
     split at hx<;>(rename_i bH;injection hx with hx;subst hx;simpa[bH] using this)
   ·cases hx
  split at hc
  ·rename_i x y bN ha
   simp only[Bool.and_eq_true] at hc
   obtain⟨⟨rfl,c1⟩,c2⟩:=hc
   exact cr x y bN (by apply Array.ext';exact ha) c1 c2
  ·rename_i x y bN ha
   simp only[Bool.and_eq_true,Bool.not_eq_true'] at hc
   obtain⟨⟨rfl,c1⟩,c2⟩:=hc
   exact cr x y bN (by apply Array.ext';exact ha) c1 c2
  ·cases hc
 |call m f ms=>
  cases op<;>simp only[d9] at hc<;>first|cases hc|skip
  rename_i c
  obtain⟨callee,args,argTypes⟩:=c
  split at hc
  ·rename_i g bN
   simp only at bN
   subst bN
   simp only[Bool.and_eq_true,beq_iff_eq] at hc
   obtain⟨⟨rfl,c1⟩,c2⟩:=hc
   exact ad7 r hT hN rfl c1 c2 hx
  ·cases hc
 |lS f ms=>
  cases op<;>simp only[d9] at hc<;>first|cases hc|skip
  rename_i c
  obtain⟨callee,args,argTypes⟩:=c
  split at hc
  ·rename_i g bN
   simp only at bN
   subst bN
   simp only[Bool.and_eq_true,beq_iff_eq] at hc
   obtain⟨⟨rfl,c1⟩,c2⟩:=hc
   simp only[aG] at hx
   split at hx
   ·rename_i z hz
    injection hx with hx
    subst hx
    exact ad9 r hT hN rfl c1 c2 hz
   ·cases hx
  ·cases hc
 |gI m f ms=>
  cases op<;>simp only[d9] at hc<;>first|cases hc|skip
  rename_i c
  obtain⟨callee,args,argTypes⟩:=c
  split at hc
  ·rename_i g bN
   simp only at bN
   subst bN
   simp only[Bool.and_eq_true,beq_iff_eq] at hc
   obtain⟨⟨rfl,c1⟩,c2⟩:=hc
   simp only[aG] at hx
   exact aea r hTM hN rfl c1 c2 hx
  ·cases hc
 |dC f ms=>
  cases op<;>simp only[d9] at hc<;>first|cases hc|skip
  rename_i c
  obtain⟨callee,args,argTypes⟩:=c
  split at hc
  ·rename_i g bN
   simp only at bN
   subst bN
   simp only[Bool.and_eq_true,beq_iff_eq] at hc
   obtain⟨⟨rfl,c1⟩,c2⟩:=hc
   simp only[aG] at hx
   exact ad8 r hTV hN rfl c1 c2 hx
  ·cases hc
 |oV f ms=>
  cases op<;>simp only[d9] at hc<;>first|cases hc|skip
  rename_i fn first xs
  cases fn<;>simp only at hc<;>first|cases hc|skip
  simp only[Bool.and_eq_true,beq_iff_eq] at hc
  obtain⟨⟨⟨rfl,c0⟩,c1⟩,c2⟩:=hc
  have hf0:first=#[]:=by simpa using c0
  subst hf0
  obtain⟨g1,g2⟩:=Mp c2
  simp only[aG] at hx
  split at hx
  ·rename_i cs dP
   split at hx
   ·rename_i hj
    injection hx with hx
    subst hx
    exact aem r rfl hN ⟨by simpa using g1.symm,g2⟩ dP (fun c hc fU=>by
     have:=List.all_eq_true.1 hj c hc
     subst fU
     simp[ai.EU] at this)
   ·cases hx
  ·cases hx
 |lT m mx ms=>
  cases op<;>simp only[d9] at hc<;>first|cases hc|skip
  rename_i c
  obtain⟨callee,args,argTypes⟩:=c
  split at hc
  ·rename_i t bN
   simp only at bN
   subst bN
   simp only[Bool.and_eq_true] at hc
   simp only[aG] at hx
   split at hx
   ·rename_i f bW hp
    have hfk:bM P f=true:=by
     have dU:=hx
     unfold qR at dU
     split at dU
     ·split at dU
      ·rename_i M hM;exact hF f M hM
      ·cases dU
     ·cases dU
    exact aeb r hT hN rfl hfk hc.1 hc.2 hp hx
   ·cases hx
  ·cases hc
end
end Go.Am
